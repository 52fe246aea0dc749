/- Printed by gen.py: plain functions, and that the Go code computes them. -/
import Derived.Test.YtnooiajahmichaaYR
import Derived.Test.YtnooiajahmichaaXTS
import Derived.Test.YtnooiajahmichaaGSp0
import Derived.Test.YtnooiajahmichaaGSp1
import Derived.Test.YtnooiajahmichaaGSp2
import Derived.Test.YtnooiajahmichaaGSp3
namespace Go.Proofs.Ytnooiajahmichaa.X
open Go Go.RowKit
set_option linter.unusedVariables false
set_option linter.unusedSimpArgs false

def P_array_newMachine_L4 (c0 : T_array_Config) : (Int × List Bool) → Option ((Int × List Bool) ⊕ List Bool) := fun (q3, q2) =>
  if q3 < (c0.Tiles.length : Int) then
    ck (inb q3 c0.Tiles.length) <|
    lv (gt c0.Tiles q3) fun q5 =>
    lv (q2 ++ [q5.Init]) fun q4 =>
    ck (apOk 1 q4.length) <|
    ar (q3 + 1) fun x47 =>
    some (Sum.inl (x47, q4))
  else
    some (Sum.inr q2)
def P_array_newMachine (c0 : T_array_Config) : Option (List Int × List Bool × List Bool × List Bool) :=
  ar ((c0.Tiles.length : Int) * 4) fun x10 =>
  ar (x10 * c0.Tracks) fun x13 =>
  ck (mkOk 1 x13) <|
  lv ((List.replicate (x13 : Int).toNat false : List Bool)) fun q4 =>
  ck (mkOk 1 (c0.Tiles.length : Int)) <|
  lv ((List.replicate ((c0.Tiles.length : Int) : Int).toNat false : List Bool)) fun q3 =>
  bd (P_array_order c0) fun q5 =>
  bd (
    lp (P_array_newMachine_L4 c0) fuel (0, [])) fun q2 =>
  some (q5.1, q4, q3, q2)
set_option maxHeartbeats 4000000 in
set_option maxRecDepth 100000 in
theorem c_array_newMachine {w0 w : World} {l : List Assn} {ρ : Heap} {q6 : Option Addr} {q25 : Nat} {c_c0_3 : Nat} {q9 : Option Addr} {q26 : Nat} {c_c0_4 : Nat} {q0a : Option Addr} {q27 : Nat} {c_c0_5 : Nat} {c0 : T_array_Config} {r : (List Int × List Bool × List Bool × List Bool)} (hF : P_array_newMachine c0 = some r) (q1j : RdS R_array_Tile ρ q6 q25 c_c0_3 c0.Tiles) (q2b : RdS R_array_Pad ρ q9 q26 c_c0_4 c0.In) (q2c : RdS R_array_Pad ρ q0a q27 c_c0_5 c0.Out) (hS : St w0 w (ro ρ :: l)) :
    Calls Try.prog 117 #[.agg #[.int .i64 c0.Rows, .int .i64 c0.Cols, .int .i64 c0.Tracks, .slice q6 q25 c_c0_3, .slice q9 q26 c_c0_4, .slice q0a q27 c_c0_5]] w fun e w' => ∃ (q28 : Nat) (q0v : Option Addr) (q0j : Nat) (c_b_y0_ret_6_ret : Nat) (q0q : List Value) (q0w : Option Addr) (q0k : Nat) (c_b_y0_ret_7_ret : Nat) (q0r : List Value) (q0x : Option Addr) (q0l : Nat) (c_b_y0_ret_8_ret : Nat) (q0s : List Value) (q0y : Option Addr) (q0m : Nat) (c_b_y0_ret_9_ret : Nat) (q0t : List Value), e = .returned (.pointer (some ⟨q28, 0, none⟩)) ∧ RepL (RpI .i64) ρ r.1 q0q ∧ RepL RpB ρ r.2.1 q0r ∧ RepL RpB ρ r.2.2.1 q0s ∧ RepL RpB ρ r.2.2.2 q0t ∧ St w0 w' (cells q28 257 [.int .i64 c0.Rows, .int .i64 c0.Cols, .int .i64 c0.Tracks, .slice q6 q25 c_c0_3, .slice q9 q26 c_c0_4, .slice q0a q27 c_c0_5, .slice q0v q0j c_b_y0_ret_6_ret, .slice q0w q0k c_b_y0_ret_7_ret, .slice q0x q0l c_b_y0_ret_8_ret, .slice q0y q0m c_b_y0_ret_9_ret] :: vec 3 (RpI .i64).sz (.slice q0v q0j c_b_y0_ret_6_ret) q0j q0q :: vec 4 RpB.sz (.slice q0w q0k c_b_y0_ret_7_ret) q0k q0r :: vec 4 RpB.sz (.slice q0x q0l c_b_y0_ret_8_ret) q0l q0s :: vec 4 RpB.sz (.slice q0y q0m c_b_y0_ret_9_ret) q0m q0t :: ro ρ :: l) := by
  have e_ := q1j.n; subst e_
  have e_ := q2b.n; subst e_
  have e_ := q2c.n; subst e_
  refine enterC Try.func117 rfl 49 rfl (by simp) ?_
  refine x_seq <| x_region <|
    ?_
  refine o_box (cs := [.int .i64 c0.Rows, .int .i64 c0.Cols, .int .i64 c0.Tracks, .slice q6 c0.Tiles.length c_c0_3, .slice q9 c0.In.length c_c0_4, .slice q0a c0.Out.length c_c0_5]) rfl rfl hS (fun b1 w' hS => ?_)
  refine p (yl_assign rfl) <| x_done <| x_seq <|
    ?_
  replace hF := ar_s hF; obtain ⟨x10, hx10, hF⟩ := hF
  replace hF := ar_s hF; obtain ⟨x13, hx13, hF⟩ := hF
  replace hF := ck_s hF; obtain ⟨q2m, hF⟩ := hF
  replace hF := lv_s hF; obtain ⟨q3, q2n, hF⟩ := hF
  replace hF := ck_s hF; obtain ⟨q2f, hF⟩ := hF
  replace hF := lv_s hF; obtain ⟨q2, q2g, hF⟩ := hF
  refine x_par (w0 := w0) [⟨[], [], [6], [0], [], []⟩, ⟨[], [], [7], [], [], []⟩, ⟨[1], [1], [8], [0], [], []⟩, ⟨[1, 2], [2], [9], [], [], []⟩, ⟨[1, 2, 3], [3], [10], [], [], []⟩, ⟨[], [], [11], [], [], []⟩, ⟨[5], [5], [12], [0], [], []⟩, ⟨[1, 2, 3, 4, 5, 6], [4, 6], [13], [], [], []⟩, ⟨[1, 2, 3, 4, 5, 6, 7], [7], [14], [], [], [1]⟩, ⟨[], [], [15], [], [], []⟩, ⟨[9], [9], [16], [0], [], []⟩, ⟨[9, 10], [10], [17], [], [], []⟩, ⟨[9, 10, 11], [11], [18], [], [], [2]⟩, ⟨[0, 1, 2, 3, 4, 5, 6, 7, 8, 9, 10, 11, 12], [0, 8, 12], [14, 18, 19], [], [], []⟩, ⟨[0, 1, 2, 3, 4, 5, 6, 7, 8, 9, 10, 11, 12, 13], [8, 12, 13], [20], [], [], [3]⟩, ⟨[0, 1, 2, 3, 4, 5, 6, 7, 8, 9, 10, 11, 12, 13, 14], [14], [3, 20], [], [], []⟩] [⟨none, none, []⟩, ⟨(some 8), none, [14]⟩, ⟨(some 12), none, [18]⟩, ⟨(some 14), none, [14, 18, 20]⟩] [3, 6, 7, 8, 9, 10, 11, 12, 13, 14, 15, 16, 17, 18, 19, 20] [0] [0, 1, 2, 3] [0, 1, 2, 3, 4, 5, 6, 7, 8, 9, 10, 11, 12, 13, 14, 15] [fun Ep1 => Ep1 6 = .agg #[.int .i64 c0.Rows, .int .i64 c0.Cols, .int .i64 c0.Tracks, .slice q6 c0.Tiles.length c_c0_3, .slice q9 c0.In.length c_c0_4, .slice q0a c0.Out.length c_c0_5], fun Ep1 => Ep1 7 = .pointer (some ⟨b1, 3, none⟩), fun Ep1 => Ep1 8 = .slice q6 c0.Tiles.length c_c0_3, fun Ep1 => Ep1 9 = .int .i64 (c0.Tiles.length : Int), fun Ep1 => Ep1 10 = .int .i64 x10, fun Ep1 => Ep1 11 = .pointer (some ⟨b1, 2, none⟩), fun Ep1 => Ep1 12 = .int .i64 c0.Tracks, fun Ep1 => Ep1 13 = .int .i64 x13, fun Ep1 => Ep1 14 = .slice (adOf (Ep1 14)) q3.length q3.length, fun Ep1 => Ep1 15 = .pointer (some ⟨b1, 3, none⟩), fun Ep1 => Ep1 16 = .slice q6 c0.Tiles.length c_c0_3, fun Ep1 => Ep1 17 = .int .i64 (c0.Tiles.length : Int), fun Ep1 => Ep1 18 = .slice (adOf (Ep1 18)) q2.length q2.length, fun Ep1 => Ep1 19 = .agg #[.int .i64 c0.Rows, .int .i64 c0.Cols, .int .i64 c0.Tracks, .slice q6 c0.Tiles.length c_c0_3, .slice q9 c0.In.length c_c0_4, .slice q0a c0.Out.length c_c0_5, .slice none 0 0, .slice (adOf (Ep1 14)) q3.length q3.length, .slice (adOf (Ep1 18)) q2.length q2.length, .slice none 0 0], fun Ep1 => Ep1 20 = .pointer (some ⟨(blkOf (Ep1 20)), 0, none⟩), fun Ep1 => Ep1 3 = .pointer (some ⟨(blkOf (Ep1 20)), 0, none⟩)] [fun Ep1 => cells b1 81 [.int .i64 c0.Rows, .int .i64 c0.Cols, .int .i64 c0.Tracks, .slice q6 c0.Tiles.length c_c0_3, .slice q9 c0.In.length c_c0_4, .slice q0a c0.Out.length c_c0_5], fun Ep1 => bunA (fun (cs14 : List Value) => RepL RpB ρ q3 cs14) (fun (cs14 : List Value) => [vec 4 RpB.sz (.slice (adOf (Ep1 14)) q3.length q3.length) q3.length cs14]), fun Ep1 => bunA (fun (cs18 : List Value) => RepL RpB ρ q2 cs18) (fun (cs18 : List Value) => [vec 4 RpB.sz (.slice (adOf (Ep1 18)) q2.length q2.length) q2.length cs18]), fun Ep1 => cells (blkOf (Ep1 20)) 257 [.int .i64 c0.Rows, .int .i64 c0.Cols, .int .i64 c0.Tracks, .slice q6 c0.Tiles.length c_c0_3, .slice q9 c0.In.length c_c0_4, .slice q0a c0.Out.length c_c0_5, .slice none 0 0, .slice (adOf (Ep1 14)) q3.length q3.length, .slice (adOf (Ep1 18)) q2.length q2.length, .slice none 0 0]] mixed (by kernel_rfl) hS ?_ ?_
  · refine ⟨?_, ?_, ?_, ?_, ?_, ?_, ?_, ?_, ?_, ?_, ?_, ?_, ?_, ?_, ?_, ?_, trivial⟩
    · intro Ep1 w l' hE1 hO1 hF_ hS
      replace hS : St w0 w (cells b1 81 [.int .i64 c0.Rows, .int .i64 c0.Cols, .int .i64 c0.Tracks, .slice q6 c0.Tiles.length c_c0_3, .slice q9 c0.In.length c_c0_4, .slice q0a c0.Out.length c_c0_5] :: l') := Eq.mp (by kernel_rfl) hS
      refine pa (v := .agg #[.int .i64 c0.Rows, .int .i64 c0.Cols, .int .i64 c0.Tracks, .slice q6 c0.Tiles.length c_c0_3, .slice q9 c0.In.length c_c0_4, .slice q0a c0.Out.length c_c0_5]) (ld_sub agg_81 (hE1 1 rfl) rfl rfl hS) <| x_done <|
        ?_
      refine x_fin ⟨⟨_, rfl⟩, rfl, ?_⟩
      exact Eq.mp (by kernel_rfl) hS
    · intro Ep1 w l' hE1 hO1 hF_ hS
      refine p (yl_field0 fld_81_3 (hE1 1 rfl)) <| x_done <|
        ?_
      refine x_fin ⟨⟨_, rfl⟩, rfl, ?_⟩
      exact Eq.mp (by kernel_rfl) hS
    · intro Ep1 w l' hE1 hO1 hF_ hS
      obtain ⟨q1l, -⟩ := hF_
      replace q1l : Ep1 7 = .pointer (some ⟨b1, 3, none⟩) := Eq.mp (by kernel_rfl) q1l
      replace hS : St w0 w (cells b1 81 [.int .i64 c0.Rows, .int .i64 c0.Cols, .int .i64 c0.Tracks, .slice q6 c0.Tiles.length c_c0_3, .slice q9 c0.In.length c_c0_4, .slice q0a c0.Out.length c_c0_5] :: l') := Eq.mp (by kernel_rfl) hS
      refine pa (at_load one_78 q1l (hS.cell rfl)) <| x_done <|
        ?_
      refine x_fin ⟨⟨_, rfl⟩, rfl, ?_⟩
      exact Eq.mp (by kernel_rfl) hS
    · intro Ep1 w l' hE1 hO1 hF_ hS
      obtain ⟨q1m, -⟩ := hF_
      replace q1m : Ep1 8 = .slice q6 c0.Tiles.length c_c0_3 := Eq.mp (by kernel_rfl) q1m
      refine p (yl_len_slice usl_78 q1m) <| x_done <|
        ?_
      refine x_fin ⟨⟨_, rfl⟩, rfl, ?_⟩
      exact Eq.mp (by kernel_rfl) hS
    · intro Ep1 w l' hE1 hO1 hF_ hS
      obtain ⟨q1n, -⟩ := hF_
      replace q1n : Ep1 9 = .int .i64 (c0.Tiles.length : Int) := Eq.mp (by kernel_rfl) q1n
      refine p (ymul q1n rfl hx10) <| x_done <|
        ?_
      refine x_fin ⟨⟨_, rfl⟩, rfl, ?_⟩
      exact Eq.mp (by kernel_rfl) hS
    · intro Ep1 w l' hE1 hO1 hF_ hS
      refine p (yl_field0 fld_81_2 (hE1 1 rfl)) <| x_done <|
        ?_
      refine x_fin ⟨⟨_, rfl⟩, rfl, ?_⟩
      exact Eq.mp (by kernel_rfl) hS
    · intro Ep1 w l' hE1 hO1 hF_ hS
      obtain ⟨q1o, -⟩ := hF_
      replace q1o : Ep1 11 = .pointer (some ⟨b1, 2, none⟩) := Eq.mp (by kernel_rfl) q1o
      replace hS : St w0 w (cells b1 81 [.int .i64 c0.Rows, .int .i64 c0.Cols, .int .i64 c0.Tracks, .slice q6 c0.Tiles.length c_c0_3, .slice q9 c0.In.length c_c0_4, .slice q0a c0.Out.length c_c0_5] :: l') := Eq.mp (by kernel_rfl) hS
      refine pa (at_load one_3 q1o (hS.cell rfl)) <| x_done <|
        ?_
      refine x_fin ⟨⟨_, rfl⟩, rfl, ?_⟩
      exact Eq.mp (by kernel_rfl) hS
    · intro Ep1 w l' hE1 hO1 hF_ hS
      obtain ⟨q1p, q1q, -⟩ := hF_
      replace q1p : Ep1 10 = .int .i64 x10 := Eq.mp (by kernel_rfl) q1p
      replace q1q : Ep1 12 = .int .i64 c0.Tracks := Eq.mp (by kernel_rfl) q1q
      refine p (ymul q1p q1q hx13) <| x_done <|
        ?_
      refine x_fin ⟨⟨_, rfl⟩, rfl, ?_⟩
      exact Eq.mp (by kernel_rfl) hS
    · intro Ep1 w l' hE1 hO1 hF_ hS
      obtain ⟨q1i, -⟩ := hF_
      replace q1i : Ep1 13 = .int .i64 x13 := Eq.mp (by kernel_rfl) q1i
      refine o_mk sl_124 zero_4 (show RpB.ok ρ _ false from rfl) q1i q1i q2m (by decide) q2n hS (fun A14 cs14 w' hr14 hS => ?_)
      refine x_done <|
        ?_
      refine x_fin ⟨⟨_, rfl⟩, rfl, ?_⟩
      replace hS := St.bun (Φ := (fun (cs14 : List Value) => RepL RpB ρ q3 cs14)) (L := (fun (cs14 : List Value) => [vec 4 RpB.sz (.slice A14 q3.length q3.length) q3.length cs14])) cs14 hr14 hS
      exact Eq.mp (by kernel_rfl) hS
    · intro Ep1 w l' hE1 hO1 hF_ hS
      refine p (yl_field0 fld_81_3 (hE1 1 rfl)) <| x_done <|
        ?_
      refine x_fin ⟨⟨_, rfl⟩, rfl, ?_⟩
      exact Eq.mp (by kernel_rfl) hS
    · intro Ep1 w l' hE1 hO1 hF_ hS
      obtain ⟨q1r, -⟩ := hF_
      replace q1r : Ep1 15 = .pointer (some ⟨b1, 3, none⟩) := Eq.mp (by kernel_rfl) q1r
      replace hS : St w0 w (cells b1 81 [.int .i64 c0.Rows, .int .i64 c0.Cols, .int .i64 c0.Tracks, .slice q6 c0.Tiles.length c_c0_3, .slice q9 c0.In.length c_c0_4, .slice q0a c0.Out.length c_c0_5] :: l') := Eq.mp (by kernel_rfl) hS
      refine pa (at_load one_78 q1r (hS.cell rfl)) <| x_done <|
        ?_
      refine x_fin ⟨⟨_, rfl⟩, rfl, ?_⟩
      exact Eq.mp (by kernel_rfl) hS
    · intro Ep1 w l' hE1 hO1 hF_ hS
      obtain ⟨q1c, -⟩ := hF_
      replace q1c : Ep1 16 = .slice q6 c0.Tiles.length c_c0_3 := Eq.mp (by kernel_rfl) q1c
      refine p (yl_len_slice usl_78 q1c) <| x_done <|
        ?_
      refine x_fin ⟨⟨_, rfl⟩, rfl, ?_⟩
      exact Eq.mp (by kernel_rfl) hS
    · intro Ep1 w l' hE1 hO1 hF_ hS
      obtain ⟨q11, -⟩ := hF_
      replace q11 : Ep1 17 = .int .i64 (c0.Tiles.length : Int) := Eq.mp (by kernel_rfl) q11
      refine o_mk sl_124 zero_4 (show RpB.ok ρ _ false from rfl) q11 q11 q2f (by decide) q2g hS (fun A18 cs18 w' hr18 hS => ?_)
      refine x_done <|
        ?_
      refine x_fin ⟨⟨_, rfl⟩, rfl, ?_⟩
      replace hS := St.bun (Φ := (fun (cs18 : List Value) => RepL RpB ρ q2 cs18)) (L := (fun (cs18 : List Value) => [vec 4 RpB.sz (.slice A18 q2.length q2.length) q2.length cs18])) cs18 hr18 hS
      exact Eq.mp (by kernel_rfl) hS
    · intro Ep1 w l' hE1 hO1 hF_ hS
      obtain ⟨q1s, q12, q0u, -⟩ := hF_
      replace q1s : Ep1 6 = .agg #[.int .i64 c0.Rows, .int .i64 c0.Cols, .int .i64 c0.Tracks, .slice q6 c0.Tiles.length c_c0_3, .slice q9 c0.In.length c_c0_4, .slice q0a c0.Out.length c_c0_5] := Eq.mp (by kernel_rfl) q1s
      replace q12 : Ep1 14 = .slice (adOf (Ep1 14)) q3.length q3.length := Eq.mp (by kernel_rfl) q12
      replace q0u : Ep1 18 = .slice (adOf (Ep1 18)) q2.length q2.length := Eq.mp (by kernel_rfl) q0u
      refine p (v := .agg #[.int .i64 c0.Rows, .int .i64 c0.Cols, .int .i64 c0.Tracks, .slice q6 c0.Tiles.length c_c0_3, .slice q9 c0.In.length c_c0_4, .slice q0a c0.Out.length c_c0_5, .slice none 0 0, .slice (adOf (Ep1 14)) q3.length q3.length, .slice (adOf (Ep1 18)) q2.length q2.length, .slice none 0 0]) (yl_build bld_257 bldf_257 (parts_eq (pt (va := .agg #[.int .i64 c0.Rows, .int .i64 c0.Cols, .int .i64 c0.Tracks, .slice q6 c0.Tiles.length c_c0_3, .slice q9 c0.In.length c_c0_4, .slice q0a c0.Out.length c_c0_5]) q1s (pt (va := .slice (adOf (Ep1 14)) q3.length q3.length) q12 (pt (va := .slice (adOf (Ep1 18)) q2.length q2.length) q0u pt0)))) (by kernel_rfl)) <| x_done <|
        ?_
      refine x_fin ⟨⟨_, rfl⟩, rfl, ?_⟩
      exact Eq.mp (by kernel_rfl) hS
    · intro Ep1 w l' hE1 hO1 hF_ hS
      obtain ⟨q12, q0u, q1d, -⟩ := hF_
      replace q12 : Ep1 14 = .slice (adOf (Ep1 14)) q3.length q3.length := Eq.mp (by kernel_rfl) q12
      replace q0u : Ep1 18 = .slice (adOf (Ep1 18)) q2.length q2.length := Eq.mp (by kernel_rfl) q0u
      replace q1d : Ep1 19 = .agg #[.int .i64 c0.Rows, .int .i64 c0.Cols, .int .i64 c0.Tracks, .slice q6 c0.Tiles.length c_c0_3, .slice q9 c0.In.length c_c0_4, .slice q0a c0.Out.length c_c0_5, .slice none 0 0, .slice (adOf (Ep1 14)) q3.length q3.length, .slice (adOf (Ep1 18)) q2.length q2.length, .slice none 0 0] := Eq.mp (by kernel_rfl) q1d
      refine o_box (cs := [.int .i64 c0.Rows, .int .i64 c0.Cols, .int .i64 c0.Tracks, .slice q6 c0.Tiles.length c_c0_3, .slice q9 c0.In.length c_c0_4, .slice q0a c0.Out.length c_c0_5, .slice none 0 0, .slice (adOf (Ep1 14)) q3.length q3.length, .slice (adOf (Ep1 18)) q2.length q2.length, .slice none 0 0]) q1d rfl hS (fun b20 w' hS => ?_)
      refine x_done <|
        ?_
      refine x_fin ⟨⟨_, rfl⟩, rfl, ?_⟩
      exact Eq.mp (by kernel_rfl) hS
    · intro Ep1 w l' hE1 hO1 hF_ hS
      obtain ⟨q1e, -⟩ := hF_
      replace q1e : Ep1 20 = .pointer (some ⟨(blkOf (Ep1 20)), 0, none⟩) := Eq.mp (by kernel_rfl) q1e
      refine p (yl_assign q1e) <| x_done <|
        ?_
      refine x_fin ⟨⟨_, rfl⟩, rfl, ?_⟩
      exact Eq.mp (by kernel_rfl) hS
  intro Ep1 w' hE1 hF_ hS
  obtain ⟨q1s, q1l, q1m, q1n, q1p, q1o, q1q, q1i, q12, q1r, q1c, q11, q0u, q1d, q1e, q24, -⟩ := hF_
  replace q1s : Ep1 6 = .agg #[.int .i64 c0.Rows, .int .i64 c0.Cols, .int .i64 c0.Tracks, .slice q6 c0.Tiles.length c_c0_3, .slice q9 c0.In.length c_c0_4, .slice q0a c0.Out.length c_c0_5] := Eq.mp (by kernel_rfl) q1s
  replace q1l : Ep1 7 = .pointer (some ⟨b1, 3, none⟩) := Eq.mp (by kernel_rfl) q1l
  replace q1m : Ep1 8 = .slice q6 c0.Tiles.length c_c0_3 := Eq.mp (by kernel_rfl) q1m
  replace q1n : Ep1 9 = .int .i64 (c0.Tiles.length : Int) := Eq.mp (by kernel_rfl) q1n
  replace q1p : Ep1 10 = .int .i64 x10 := Eq.mp (by kernel_rfl) q1p
  replace q1o : Ep1 11 = .pointer (some ⟨b1, 2, none⟩) := Eq.mp (by kernel_rfl) q1o
  replace q1q : Ep1 12 = .int .i64 c0.Tracks := Eq.mp (by kernel_rfl) q1q
  replace q1i : Ep1 13 = .int .i64 x13 := Eq.mp (by kernel_rfl) q1i
  replace q12 : Ep1 14 = .slice (adOf (Ep1 14)) q3.length q3.length := Eq.mp (by kernel_rfl) q12
  replace q1r : Ep1 15 = .pointer (some ⟨b1, 3, none⟩) := Eq.mp (by kernel_rfl) q1r
  replace q1c : Ep1 16 = .slice q6 c0.Tiles.length c_c0_3 := Eq.mp (by kernel_rfl) q1c
  replace q11 : Ep1 17 = .int .i64 (c0.Tiles.length : Int) := Eq.mp (by kernel_rfl) q11
  replace q0u : Ep1 18 = .slice (adOf (Ep1 18)) q2.length q2.length := Eq.mp (by kernel_rfl) q0u
  replace q1d : Ep1 19 = .agg #[.int .i64 c0.Rows, .int .i64 c0.Cols, .int .i64 c0.Tracks, .slice q6 c0.Tiles.length c_c0_3, .slice q9 c0.In.length c_c0_4, .slice q0a c0.Out.length c_c0_5, .slice none 0 0, .slice (adOf (Ep1 14)) q3.length q3.length, .slice (adOf (Ep1 18)) q2.length q2.length, .slice none 0 0] := Eq.mp (by kernel_rfl) q1d
  replace q1e : Ep1 20 = .pointer (some ⟨(blkOf (Ep1 20)), 0, none⟩) := Eq.mp (by kernel_rfl) q1e
  replace q24 : Ep1 3 = .pointer (some ⟨(blkOf (Ep1 20)), 0, none⟩) := Eq.mp (by kernel_rfl) q24
  replace hS : St w0 w' (cells b1 81 [.int .i64 c0.Rows, .int .i64 c0.Cols, .int .i64 c0.Tracks, .slice q6 c0.Tiles.length c_c0_3, .slice q9 c0.In.length c_c0_4, .slice q0a c0.Out.length c_c0_5] :: bunA (fun (cs14 : List Value) => RepL RpB ρ q3 cs14) (fun (cs14 : List Value) => [vec 4 RpB.sz (.slice (adOf (Ep1 14)) q3.length q3.length) q3.length cs14]) :: bunA (fun (cs18 : List Value) => RepL RpB ρ q2 cs18) (fun (cs18 : List Value) => [vec 4 RpB.sz (.slice (adOf (Ep1 18)) q2.length q2.length) q2.length cs18]) :: cells (blkOf (Ep1 20)) 257 [.int .i64 c0.Rows, .int .i64 c0.Cols, .int .i64 c0.Tracks, .slice q6 c0.Tiles.length c_c0_3, .slice q9 c0.In.length c_c0_4, .slice q0a c0.Out.length c_c0_5, .slice none 0 0, .slice (adOf (Ep1 14)) q3.length q3.length, .slice (adOf (Ep1 18)) q2.length q2.length, .slice none 0 0] :: (ro ρ :: l)) := Eq.mp (by kernel_rfl) hS
  have q_ := St.unbun (hS.pull 1); obtain ⟨cs14, hr14, hS⟩ := q_
  have q_ := St.unbun (hS.pull 2); obtain ⟨cs18, hr18, hS⟩ := q_
  replace hF := bd_s hF; obtain ⟨q0n, q2o, hF⟩ := hF
  refine x_seq <| x_region <| p (yl_move q24) <| pa (v := .agg #[.int .i64 c0.Rows, .int .i64 c0.Cols, .int .i64 c0.Tracks, .slice q6 c0.Tiles.length c_c0_3, .slice q9 c0.In.length c_c0_4, .slice q0a c0.Out.length c_c0_5]) (ld_sub agg_81 (hE1 1 rfl) rfl rfl (hS.pull 2)) <|
    ?_
  have hcall := c_array_order q2o q1j q2b q2c (hS.pull 4)
  refine o_cc call_132 (args1 rfl) hcall ?_
  rintro e w' ⟨q0b, q2h, c_y0_ret_2_2, q0i, rfl, q13, hS⟩
  refine ⟨_, rfl, ?_⟩
  have e_ := St.vec_n hS q13; subst e_
  refine p (yl_move rfl) <| p (yl_extract rfl rfl) <| p (yl_extract rfl rfl) <| p (yl_nilCheck rfl) <|
    p (yl_field0 fld_257_1 rfl) <|
    ?_
  refine o_store1 (v := .slice q0b q0n.1.length c_y0_ret_2_2) one_22 rfl rfl rfl rfl (hS.pull 5) (fun w' hS => ?_)
  refine x_done <| x_seq <| x_seq <| x_region <|
    p (yl_field0 fld_81_3 (hE1 1 rfl)) <| pa (at_load one_78 rfl ((hS.pull 5).cell rfl)) <| p (yl_len_slice usl_78 rfl) <| p (yl_move rfl) <|
    x_done <|
    ?_
  replace hF := bd_s hF; obtain ⟨oL4, hLL4, hF⟩ := hF
  refine x_join (fun E w => ∃ (q1f : Nat) (q0g : Option Addr) (q0h : Nat) (c_b_m3_L4_9_L4 : Nat) (q0e : List Value) (q0p : List Bool), q0p = oL4 ∧ E 3 = .pointer (some ⟨q1f, 0, none⟩) ∧ RepL RpB ρ q0p q0e ∧ St w0 w (cells q1f 257 [.int .i64 c0.Rows, .int .i64 c0.Cols, .int .i64 c0.Tracks, .slice q6 c0.Tiles.length c_c0_3, .slice q9 c0.In.length c_c0_4, .slice q0a c0.Out.length c_c0_5, .slice q0b q0n.1.length c_y0_ret_2_2, .slice (adOf (Ep1 14)) q3.length q3.length, .slice (adOf (Ep1 18)) q2.length q2.length, .slice q0g q0h c_b_m3_L4_9_L4] :: vec 3 (RpI .i64).sz (.slice q0b q0n.1.length c_y0_ret_2_2) q0n.1.length q0i :: vec 4 RpB.sz (.slice (adOf (Ep1 14)) q3.length q3.length) q3.length cs14 :: vec 4 RpB.sz (.slice (adOf (Ep1 18)) q2.length q2.length) q2.length cs18 :: vec 4 RpB.sz (.slice q0g q0h c_b_m3_L4_9_L4) q0h q0e :: ro ρ :: l)) ?_ ?_
  · skip -- L4
    refine x_block ?_
    replace hS := St.vec_nil hS 4 RpB.sz
    have q0z : RepL RpB ρ [] [] := rfl
    refine x_loop (fun k_ E w => ∃ (q5 : Nat) (q8 : Option Addr) (q0d : Nat) (c_b_m3_L4h_9_L4h : Nat) (q0c : List Value) (q1g : Int) (q7 : List Bool), lp (P_array_newMachine_L4 c0) k_ (q1g, q7) = some oL4 ∧ E 3 = .pointer (some ⟨q5, 0, none⟩) ∧ E 30 = .slice q6 c0.Tiles.length c_c0_3 ∧ E 31 = .int .i64 (c0.Tiles.length : Int) ∧ E 32 = .int .i64 q1g ∧ RepL RpB ρ q7 q0c ∧ St w0 w (cells q5 257 [.int .i64 c0.Rows, .int .i64 c0.Cols, .int .i64 c0.Tracks, .slice q6 c0.Tiles.length c_c0_3, .slice q9 c0.In.length c_c0_4, .slice q0a c0.Out.length c_c0_5, .slice q0b q0n.1.length c_y0_ret_2_2, .slice (adOf (Ep1 14)) q3.length q3.length, .slice (adOf (Ep1 18)) q2.length q2.length, .slice q8 q0d c_b_m3_L4h_9_L4h] :: vec 3 (RpI .i64).sz (.slice q0b q0n.1.length c_y0_ret_2_2) q0n.1.length q0i :: vec 4 RpB.sz (.slice (adOf (Ep1 14)) q3.length q3.length) q3.length cs14 :: vec 4 RpB.sz (.slice (adOf (Ep1 18)) q2.length q2.length) q2.length cs18 :: vec 4 RpB.sz (.slice q8 q0d c_b_m3_L4h_9_L4h) q0d q0c :: ro ρ :: l)) fuel ⟨(blkOf (Ep1 20)), none, 0, 0, [], 0, [], hLL4, q24, rfl, rfl, rfl, q0z, (((((((hS.pull 6).drop.pull 3).pull 1).pull 4).pull 5).pull 5).pull 5)⟩ ?_
    rintro kL4 E w ⟨q5, q8, q0d, c_b_m3_L4h_9_L4h, q0c, q1g, q7, hLL4, q1k, q29, q2a, q1t, q0o, hS⟩
    have e_ := St.vec_n (hS.pull 4) q0o; subst e_
    replace hLL4 := lp_s hLL4; obtain ⟨kL4, obL4, rfl, hFL4, hLL4⟩ := hLL4
    refine x_seq <| x_region <| p (yl_lss q1t q2a) <| x_done <|
      x_seq <|
      x_cond_p (q1g < (c0.Tiles.length : Int)) rfl (fun hc33 => ?_) (fun hc33 => ?_)
    · replace hFL4 := it_t hc33 hFL4
      replace hFL4 := ck_s hFL4; obtain ⟨q2d, hFL4⟩ := hFL4
      replace hFL4 := lv_s hFL4; obtain ⟨q4, q2p, hFL4⟩ := hFL4
      have q_ := q1j.get q2d; obtain ⟨q2y, q2e, q2q⟩ := q_
      rw [← q2p] at q2e
      obtain ⟨q14, q2u, q15, q16, q2v, q17, q18, q2w, q19, q1a, q2x, q1b, rfl, q2i, q2j, q2k, q2l⟩ := q2e
      have e_ := q2i.n; subst e_
      have e_ := q2j.n; subst e_
      have e_ := q2k.n; subst e_
      have e_ := q2l.n; subst e_
      refine x_skip <| x_seq <| x_block <| x_seq <|
        x_region <| p (yix_f sl_78 q29 q1t q1j q2d) <| pa (v := .agg #[.int .u16 q4.Table, .bool q4.Init, .int .i64 q4.In.fe0, .int .i64 q4.In.fe1, .int .i64 q4.In.fe2, .int .i64 q4.In.fe3, .slice q14 q4.Out.fe0.length q15, .slice q16 q4.Out.fe1.length q17, .slice q18 q4.Out.fe2.length q19, .slice q1a q4.Out.fe3.length q1b]) (at_loadAgg agg_183 rfl rfl (Elt.every q2q (hS.pull 5))) <|
        ?_
      refine o_alloc zero_183 hS (fun b5 w' hS => ?_)
      refine o_storeAgg (news := [.int .u16 q4.Table, .bool q4.Init, .int .i64 q4.In.fe0, .int .i64 q4.In.fe1, .int .i64 q4.In.fe2, .int .i64 q4.In.fe3, .slice q14 q4.Out.fe0.length q15, .slice q16 q4.Out.fe1.length q17, .slice q18 q4.Out.fe2.length q19, .slice q1a q4.Out.fe3.length q1b]) agg_183 rfl rfl rfl (by simp [over_length]) hS (fun w' hS => ?_)
      refine x_done <|
        ?_
      replace hFL4 := lv_s hFL4; obtain ⟨q0f, q2r, hFL4⟩ := hFL4
      replace hFL4 := ck_s hFL4; obtain ⟨q2s, hFL4⟩ := hFL4
      refine x_par (w0 := w0) [⟨[], [], [36], [], [], []⟩, ⟨[], [], [37], [], [], []⟩, ⟨[1], [1], [38], [], [], []⟩, ⟨[1, 2], [2], [39], [], [], []⟩, ⟨[1, 2, 3], [3], [40], [0], [], []⟩, ⟨[], [], [41], [], [], []⟩, ⟨[5], [5], [42], [1], [], []⟩, ⟨[5, 6], [6], [43], [], [], [2]⟩, ⟨[1, 2, 3, 4, 5, 6, 7], [4, 7], [44], [2, 4], [3], [5]⟩, ⟨[0, 1, 2, 3, 4, 5, 6, 7, 8], [0], [45], [], [], []⟩, ⟨[0, 1, 2, 3, 4, 5, 6, 7, 8, 9], [9], [46], [], [], []⟩, ⟨[0, 1, 2, 3, 4, 5, 6, 7, 8, 9, 10], [8, 10], [], [], [0], [6]⟩] [⟨none, (some 11), []⟩, ⟨none, none, []⟩, ⟨(some 7), none, [43]⟩, ⟨none, (some 8), []⟩, ⟨none, none, []⟩, ⟨(some 8), none, [44]⟩, ⟨(some 11), none, [44]⟩] [36, 37, 38, 39, 40, 41, 42, 43, 44, 45, 46] [0, 1, 3, 4] [1, 2, 4, 5, 6] [0, 1, 2, 3, 4, 5, 6, 7, 8, 9, 10] [fun Ep6 => Ep6 36 = .pointer (some ⟨q5, 0, none⟩), fun Ep6 => Ep6 37 = .pointer (some ⟨q5, 0, none⟩), fun Ep6 => Ep6 38 = .pointer (some ⟨q5, 0, none⟩), fun Ep6 => Ep6 39 = .pointer (some ⟨q5, 9, none⟩), fun Ep6 => Ep6 40 = .slice q8 q7.length c_b_m3_L4h_9_L4h, fun Ep6 => Ep6 41 = .pointer (some ⟨b5, 1, none⟩), fun Ep6 => Ep6 42 = .bool q4.Init, fun Ep6 => Ep6 43 = .slice (some ⟨(blkOf (Ep6 43)), 0, none⟩) 1 1, fun Ep6 => Ep6 44 = .slice (adOf (Ep6 44)) q0f.length (capOf (Ep6 44)), fun Ep6 => Ep6 45 = .pointer (some ⟨q5, 0, none⟩), fun Ep6 => Ep6 46 = .pointer (some ⟨q5, 9, none⟩), fun Ep6 => True] [fun Ep6 => cells q5 257 [.int .i64 c0.Rows, .int .i64 c0.Cols, .int .i64 c0.Tracks, .slice q6 c0.Tiles.length c_c0_3, .slice q9 c0.In.length c_c0_4, .slice q0a c0.Out.length c_c0_5, .slice q0b q0n.1.length c_y0_ret_2_2, .slice (adOf (Ep1 14)) q3.length q3.length, .slice (adOf (Ep1 18)) q2.length q2.length, .slice q8 q7.length c_b_m3_L4h_9_L4h], fun Ep6 => cells b5 183 [.int .u16 q4.Table, .bool q4.Init, .int .i64 q4.In.fe0, .int .i64 q4.In.fe1, .int .i64 q4.In.fe2, .int .i64 q4.In.fe3, .slice q14 q4.Out.fe0.length q15, .slice q16 q4.Out.fe1.length q17, .slice q18 q4.Out.fe2.length q19, .slice q1a q4.Out.fe3.length q1b], fun Ep6 => cells (blkOf (Ep6 43)) 4 [.bool q4.Init], fun Ep6 => vec 4 RpB.sz (.slice q8 q7.length c_b_m3_L4h_9_L4h) q7.length q0c, fun Ep6 => ro ρ, fun Ep6 => bunA (fun (cs44 : List Value) => RepL RpB ρ q0f cs44) (fun (cs44 : List Value) => [vec 4 RpB.sz (.slice (adOf (Ep6 44)) q0f.length (capOf (Ep6 44))) q0f.length cs44]), fun Ep6 => cells q5 257 [.int .i64 c0.Rows, .int .i64 c0.Cols, .int .i64 c0.Tracks, .slice q6 c0.Tiles.length c_c0_3, .slice q9 c0.In.length c_c0_4, .slice q0a c0.Out.length c_c0_5, .slice q0b q0n.1.length c_y0_ret_2_2, .slice (adOf (Ep1 14)) q3.length q3.length, .slice (adOf (Ep1 18)) q2.length q2.length, .slice (adOf (Ep6 44)) q0f.length (capOf (Ep6 44))]] mixed (by kernel_rfl) ((((hS.pull 6).pull 6).pull 2).pull 3) ?_ ?_
      · refine ⟨?_, ?_, ?_, ?_, ?_, ?_, ?_, ?_, ?_, ?_, ?_, ?_, trivial⟩
        · intro Ep6 w l' hE6 hO6 hF_ hS
          refine p (yl_move ((hE6 3 rfl).trans q1k)) <| x_done <|
            ?_
          refine x_fin ⟨⟨_, rfl⟩, rfl, ?_⟩
          exact Eq.mp (by kernel_rfl) hS
        · intro Ep6 w l' hE6 hO6 hF_ hS
          refine p (yl_move ((hE6 3 rfl).trans q1k)) <| x_done <|
            ?_
          refine x_fin ⟨⟨_, rfl⟩, rfl, ?_⟩
          exact Eq.mp (by kernel_rfl) hS
        · intro Ep6 w l' hE6 hO6 hF_ hS
          obtain ⟨q1u, -⟩ := hF_
          replace q1u : Ep6 37 = .pointer (some ⟨q5, 0, none⟩) := Eq.mp (by kernel_rfl) q1u
          refine p (yl_nilCheck q1u) <| x_done <|
            ?_
          refine x_fin ⟨⟨_, rfl⟩, rfl, ?_⟩
          exact Eq.mp (by kernel_rfl) hS
        · intro Ep6 w l' hE6 hO6 hF_ hS
          obtain ⟨q1v, -⟩ := hF_
          replace q1v : Ep6 38 = .pointer (some ⟨q5, 0, none⟩) := Eq.mp (by kernel_rfl) q1v
          refine p (yl_field0 fld_257_4 q1v) <| x_done <|
            ?_
          refine x_fin ⟨⟨_, rfl⟩, rfl, ?_⟩
          exact Eq.mp (by kernel_rfl) hS
        · intro Ep6 w l' hE6 hO6 hF_ hS
          obtain ⟨q1w, -⟩ := hF_
          replace q1w : Ep6 39 = .pointer (some ⟨q5, 9, none⟩) := Eq.mp (by kernel_rfl) q1w
          replace hS : St w0 w (cells q5 257 [.int .i64 c0.Rows, .int .i64 c0.Cols, .int .i64 c0.Tracks, .slice q6 c0.Tiles.length c_c0_3, .slice q9 c0.In.length c_c0_4, .slice q0a c0.Out.length c_c0_5, .slice q0b q0n.1.length c_y0_ret_2_2, .slice (adOf (Ep1 14)) q3.length q3.length, .slice (adOf (Ep1 18)) q2.length q2.length, .slice q8 q7.length c_b_m3_L4h_9_L4h] :: l') := Eq.mp (by kernel_rfl) hS
          refine pa (at_load one_124 q1w (hS.cell rfl)) <| x_done <|
            ?_
          refine x_fin ⟨⟨_, rfl⟩, rfl, ?_⟩
          exact Eq.mp (by kernel_rfl) hS
        · intro Ep6 w l' hE6 hO6 hF_ hS
          refine p (yl_field0 fld_183_1 (hE6 5 rfl)) <| x_done <|
            ?_
          refine x_fin ⟨⟨_, rfl⟩, rfl, ?_⟩
          exact Eq.mp (by kernel_rfl) hS
        · intro Ep6 w l' hE6 hO6 hF_ hS
          obtain ⟨q1x, -⟩ := hF_
          replace q1x : Ep6 41 = .pointer (some ⟨b5, 1, none⟩) := Eq.mp (by kernel_rfl) q1x
          replace hS : St w0 w (cells b5 183 [.int .u16 q4.Table, .bool q4.Init, .int .i64 q4.In.fe0, .int .i64 q4.In.fe1, .int .i64 q4.In.fe2, .int .i64 q4.In.fe3, .slice q14 q4.Out.fe0.length q15, .slice q16 q4.Out.fe1.length q17, .slice q18 q4.Out.fe2.length q19, .slice q1a q4.Out.fe3.length q1b] :: l') := Eq.mp (by kernel_rfl) hS
          refine pa (at_load one_4 q1x (hS.cell rfl)) <| x_done <|
            ?_
          refine x_fin ⟨⟨_, rfl⟩, rfl, ?_⟩
          exact Eq.mp (by kernel_rfl) hS
        · intro Ep6 w l' hE6 hO6 hF_ hS
          obtain ⟨q1y, -⟩ := hF_
          replace q1y : Ep6 42 = .bool q4.Init := Eq.mp (by kernel_rfl) q1y
          refine o_buildSlice (vs := [.bool q4.Init]) (cs := [.bool q4.Init]) sl_124 zero_4 (parts_eq (pt (va := .bool q4.Init) q1y pt0)) rfl (by intro v hv; simp only [List.mem_cons, List.not_mem_nil, or_false] at hv; first | (subst hv; rfl) | (rcases hv with rfl <;> rfl)) (by decide) rfl hS (fun b43 w' hS => ?_)
          refine x_done <|
            ?_
          refine x_fin ⟨⟨_, rfl⟩, rfl, ?_⟩
          exact Eq.mp (by kernel_rfl) hS
        · intro Ep6 w l' hE6 hO6 hF_ hS
          obtain ⟨q1z, q20, -⟩ := hF_
          replace q1z : Ep6 40 = .slice q8 q7.length c_b_m3_L4h_9_L4h := Eq.mp (by kernel_rfl) q1z
          replace q20 : Ep6 43 = .slice (some ⟨(blkOf (Ep6 43)), 0, none⟩) 1 1 := Eq.mp (by kernel_rfl) q20
          replace hS : St w0 w (cells (blkOf (Ep6 43)) 4 [.bool q4.Init] :: ro ρ :: vec 4 RpB.sz (.slice q8 q7.length c_b_m3_L4h_9_L4h) q7.length q0c :: l') := Eq.mp (by kernel_rfl) hS
          refine o_ap sl_124 zero_4 rfl (by decide) q1z q20 (hS.pull 2) q0o (src_blk usl_124 hS rfl rfl) (RepL.cons (R := RpB) (ρ := ρ) (x := q4.Init) (cs := [.bool q4.Init]) rfl RepL.nil) q2r q2s (fun A44 c44 cs44 w' hr44 hS => ?_)
          refine x_done <|
            ?_
          refine x_fin ⟨⟨_, rfl⟩, rfl, ?_⟩
          replace hS := St.bun (Φ := (fun (cs44 : List Value) => RepL RpB ρ q0f cs44)) (L := (fun (cs44 : List Value) => [vec 4 RpB.sz (.slice A44 q0f.length c44) q0f.length cs44])) cs44 hr44 hS
          exact Eq.mp (by kernel_rfl) ((hS.pull 2).pull 2)
        · intro Ep6 w l' hE6 hO6 hF_ hS
          obtain ⟨q21, -⟩ := hF_
          replace q21 : Ep6 36 = .pointer (some ⟨q5, 0, none⟩) := Eq.mp (by kernel_rfl) q21
          refine p (yl_nilCheck q21) <| x_done <|
            ?_
          refine x_fin ⟨⟨_, rfl⟩, rfl, ?_⟩
          exact Eq.mp (by kernel_rfl) hS
        · intro Ep6 w l' hE6 hO6 hF_ hS
          obtain ⟨q22, -⟩ := hF_
          replace q22 : Ep6 45 = .pointer (some ⟨q5, 0, none⟩) := Eq.mp (by kernel_rfl) q22
          refine p (yl_field0 fld_257_4 q22) <| x_done <|
            ?_
          refine x_fin ⟨⟨_, rfl⟩, rfl, ?_⟩
          exact Eq.mp (by kernel_rfl) hS
        · intro Ep6 w l' hE6 hO6 hF_ hS
          obtain ⟨q23, q1h, -⟩ := hF_
          replace q23 : Ep6 44 = .slice (adOf (Ep6 44)) q0f.length (capOf (Ep6 44)) := Eq.mp (by kernel_rfl) q23
          replace q1h : Ep6 46 = .pointer (some ⟨q5, 9, none⟩) := Eq.mp (by kernel_rfl) q1h
          replace hS : St w0 w (cells q5 257 [.int .i64 c0.Rows, .int .i64 c0.Cols, .int .i64 c0.Tracks, .slice q6 c0.Tiles.length c_c0_3, .slice q9 c0.In.length c_c0_4, .slice q0a c0.Out.length c_c0_5, .slice q0b q0n.1.length c_y0_ret_2_2, .slice (adOf (Ep1 14)) q3.length q3.length, .slice (adOf (Ep1 18)) q2.length q2.length, .slice q8 q7.length c_b_m3_L4h_9_L4h] :: l') := Eq.mp (by kernel_rfl) hS
          refine o_store1 (v := .slice (adOf (Ep6 44)) q0f.length (capOf (Ep6 44))) one_124 q1h q23 rfl rfl hS (fun w' hS => ?_)
          refine x_done <|
            ?_
          refine x_fin ⟨⟨undef, rfl⟩, trivial, ?_⟩
          exact Eq.mp (by kernel_rfl) hS
      intro Ep6 w' hE6 hF_ hS
      obtain ⟨q21, q1u, q1v, q1w, q1z, q1x, q1y, q20, q23, q22, q1h, -⟩ := hF_
      replace q21 : Ep6 36 = .pointer (some ⟨q5, 0, none⟩) := Eq.mp (by kernel_rfl) q21
      replace q1u : Ep6 37 = .pointer (some ⟨q5, 0, none⟩) := Eq.mp (by kernel_rfl) q1u
      replace q1v : Ep6 38 = .pointer (some ⟨q5, 0, none⟩) := Eq.mp (by kernel_rfl) q1v
      replace q1w : Ep6 39 = .pointer (some ⟨q5, 9, none⟩) := Eq.mp (by kernel_rfl) q1w
      replace q1z : Ep6 40 = .slice q8 q7.length c_b_m3_L4h_9_L4h := Eq.mp (by kernel_rfl) q1z
      replace q1x : Ep6 41 = .pointer (some ⟨b5, 1, none⟩) := Eq.mp (by kernel_rfl) q1x
      replace q1y : Ep6 42 = .bool q4.Init := Eq.mp (by kernel_rfl) q1y
      replace q20 : Ep6 43 = .slice (some ⟨(blkOf (Ep6 43)), 0, none⟩) 1 1 := Eq.mp (by kernel_rfl) q20
      replace q23 : Ep6 44 = .slice (adOf (Ep6 44)) q0f.length (capOf (Ep6 44)) := Eq.mp (by kernel_rfl) q23
      replace q22 : Ep6 45 = .pointer (some ⟨q5, 0, none⟩) := Eq.mp (by kernel_rfl) q22
      replace q1h : Ep6 46 = .pointer (some ⟨q5, 9, none⟩) := Eq.mp (by kernel_rfl) q1h
      replace hS : St w0 w' (cells b5 183 [.int .u16 q4.Table, .bool q4.Init, .int .i64 q4.In.fe0, .int .i64 q4.In.fe1, .int .i64 q4.In.fe2, .int .i64 q4.In.fe3, .slice q14 q4.Out.fe0.length q15, .slice q16 q4.Out.fe1.length q17, .slice q18 q4.Out.fe2.length q19, .slice q1a q4.Out.fe3.length q1b] :: cells (blkOf (Ep6 43)) 4 [.bool q4.Init] :: ro ρ :: bunA (fun (cs44 : List Value) => RepL RpB ρ q0f cs44) (fun (cs44 : List Value) => [vec 4 RpB.sz (.slice (adOf (Ep6 44)) q0f.length (capOf (Ep6 44))) q0f.length cs44]) :: cells q5 257 [.int .i64 c0.Rows, .int .i64 c0.Cols, .int .i64 c0.Tracks, .slice q6 c0.Tiles.length c_c0_3, .slice q9 c0.In.length c_c0_4, .slice q0a c0.Out.length c_c0_5, .slice q0b q0n.1.length c_y0_ret_2_2, .slice (adOf (Ep1 14)) q3.length q3.length, .slice (adOf (Ep1 18)) q2.length q2.length, .slice (adOf (Ep6 44)) q0f.length (capOf (Ep6 44))] :: (vec 3 (RpI .i64).sz (.slice q0b q0n.1.length c_y0_ret_2_2) q0n.1.length q0i :: vec 4 RpB.sz (.slice (adOf (Ep1 14)) q3.length q3.length) q3.length cs14 :: vec 4 RpB.sz (.slice (adOf (Ep1 18)) q2.length q2.length) q2.length cs18 :: l)) := Eq.mp (by kernel_rfl) hS
      have q_ := St.unbun (hS.pull 3); obtain ⟨cs44, hr44, hS⟩ := q_
      replace hFL4 := ar_s hFL4; obtain ⟨x47, hx47, hFL4⟩ := hFL4
      refine x_blk <| x_region <| p (yadd ((hE6 32 rfl).trans q1t) rfl hx47) <| p (yl_move rfl) <|
        x_done <|
        ?_
      have e_ := Option.some.inj (show some _ = some _ from hFL4); subst e_
      exact x_inv ⟨kL4, Nat.lt_succ_self _, q5, (adOf (Ep6 44)), q0f.length, (capOf (Ep6 44)), cs44, x47, q0f, hLL4, ((hE6 3 rfl).trans q1k), ((hE6 30 rfl).trans q29), ((hE6 31 rfl).trans q2a), rfl, hr44, ((((((((hS.pull 1).drop.pull 1).drop.pull 1).pull 1).pull 5).pull 5).pull 5).pull 5)⟩
    · replace hFL4 := it_f hc33 hFL4
      refine x_exitTo _ rfl <|
        ?_
      have e_ := Option.some.inj (show some _ = some _ from hFL4); subst e_
      exact x_inv ⟨q5, q8, q7.length, c_b_m3_L4h_9_L4h, q0c, q7, hLL4, q1k, q0o, ((((((hS.pull 5).pull 5).pull 5).pull 5).pull 5).pull 5)⟩
  rintro E w ⟨q1f, q0g, q0h, c_b_m3_L4_9_L4, q0e, q0p, rfl, q2t, q10, hS⟩
  have e_ := St.vec_n (hS.pull 4) q10; subst e_
  refine x_seq <| x_region <| p (yl_move q2t) <| p (yl_assign rfl) <|
    x_done <|
    ?_
  have e_ := Option.some.inj (show some _ = some _ from hF); subst e_
  exact x_return ⟨_, ⟨_, _, rfl, rfl, rfl⟩, q1f, q0b, q0n.1.length, c_y0_ret_2_2, q0i, (adOf (Ep1 14)), q3.length, q3.length, cs14, (adOf (Ep1 18)), q2.length, q2.length, cs18, q0g, q0p.length, c_b_m3_L4_9_L4, q0e, rfl, q13, hr14, hr18, q10, ((((((hS.pull 5).pull 5).pull 5).pull 5).pull 5).pull 5)⟩
attribute [irreducible] P_array_newMachine

def P_array_machine_value (m0 : T_array_machine) (q3 : List Bool) (tile2 : Int) (side3 : Int) (track4 : Int) : Option Bool :=
  bd (P_array_Config_into (T_array_Config.mk m0.fc.Rows m0.fc.Cols m0.fc.Tracks m0.fc.Tiles m0.fc.In m0.fc.Out) tile2 side3 track4) fun q2 =>
  if 0 ≤ q2 then
    ck (inb q2 m0.fwires.length) <|
    lv (gt m0.fwires q2) fun x28 =>
    some x28
  else
    ar ((-1 : Int) - q2) fun x30 =>
    ck ((decide (x30 < (q3.length : Int))) = true → I64 ((-1 : Int) - q2)) <|
    lv ((-1 : Int) - q2) fun x37 =>
    ck ((decide (x30 < (q3.length : Int))) = true → inb x37 q3.length) <|
    lv (gt q3 x37) fun x39 =>
    lv ((decide (x30 < (q3.length : Int))) && x39) fun x40 =>
    some x40
set_option maxHeartbeats 4000000 in
set_option maxRecDepth 100000 in
theorem c_array_machine_value {w0 w : World} {l : List Assn} {ρ : Heap} {q0t : Nat} {q7 : Option Addr} {q0k : Nat} {c_m0_3 : Nat} {q8 : Option Addr} {q0l : Nat} {c_m0_4 : Nat} {q9 : Option Addr} {q0m : Nat} {c_m0_5 : Nat} {q0a : Option Addr} {q2 : Nat} {c_m0_6 : Nat} {q0f : List Value} {q0b : Option Addr} {q3 : Nat} {c_m0_7 : Nat} {q0g : List Value} {q0c : Option Addr} {q4 : Nat} {c_m0_8 : Nat} {q0h : List Value} {q0d : Option Addr} {q5 : Nat} {c_m0_9 : Nat} {q0i : List Value} {q0e : Option Addr} {q0p : Nat} {c_in_1 : Nat} {m0 : T_array_machine} {q6 : List Bool} {tile2 : Int} {side3 : Int} {track4 : Int} {r : Bool} (hF : P_array_machine_value m0 q6 tile2 side3 track4 = some r) (q0q : RdS R_array_Tile ρ q7 q0k c_m0_3 m0.fc.Tiles) (q0r : RdS R_array_Pad ρ q8 q0l c_m0_4 m0.fc.In) (q0s : RdS R_array_Pad ρ q9 q0m c_m0_5 m0.fc.Out) (q0w : RepL (RpI .i64) ρ m0.forder q0f) (q0n : RepL RpB ρ m0.fwires q0g) (q0x : RepL RpB ρ m0.ftable q0h) (q0y : RepL RpB ρ m0.fflop q0i) (q0o : RdS RpB ρ q0e q0p c_in_1 q6) (hS : St w0 w (cells q0t 257 [.int .i64 m0.fc.Rows, .int .i64 m0.fc.Cols, .int .i64 m0.fc.Tracks, .slice q7 q0k c_m0_3, .slice q8 q0l c_m0_4, .slice q9 q0m c_m0_5, .slice q0a q2 c_m0_6, .slice q0b q3 c_m0_7, .slice q0c q4 c_m0_8, .slice q0d q5 c_m0_9] :: vec 3 (RpI .i64).sz (.slice q0a q2 c_m0_6) q2 q0f :: vec 4 RpB.sz (.slice q0b q3 c_m0_7) q3 q0g :: vec 4 RpB.sz (.slice q0c q4 c_m0_8) q4 q0h :: vec 4 RpB.sz (.slice q0d q5 c_m0_9) q5 q0i :: ro ρ :: l)) :
    Calls Try.prog 145 #[.pointer (some ⟨q0t, 0, none⟩), .slice q0e q0p c_in_1, .int .i64 tile2, .int .i64 side3, .int .i64 track4] w fun e w' => e = .returned (.bool r) ∧ St w0 w' (cells q0t 257 [.int .i64 m0.fc.Rows, .int .i64 m0.fc.Cols, .int .i64 m0.fc.Tracks, .slice q7 q0k c_m0_3, .slice q8 q0l c_m0_4, .slice q9 q0m c_m0_5, .slice q0a q2 c_m0_6, .slice q0b q3 c_m0_7, .slice q0c q4 c_m0_8, .slice q0d q5 c_m0_9] :: vec 3 (RpI .i64).sz (.slice q0a q2 c_m0_6) q2 q0f :: vec 4 RpB.sz (.slice q0b q3 c_m0_7) q3 q0g :: vec 4 RpB.sz (.slice q0c q4 c_m0_8) q4 q0h :: vec 4 RpB.sz (.slice q0d q5 c_m0_9) q5 q0i :: ro ρ :: l) := by
  have e_ := q0q.n; subst e_
  have e_ := q0r.n; subst e_
  have e_ := q0s.n; subst e_
  have e_ := St.vec_n (hS.pull 1) q0w; subst e_
  have e_ := St.vec_n (hS.pull 2) q0n; subst e_
  have e_ := St.vec_n (hS.pull 3) q0x; subst e_
  have e_ := St.vec_n (hS.pull 4) q0y; subst e_
  have e_ := q0o.n; subst e_
  refine enterC Try.func145 rfl 41 rfl (by simp) ?_
  replace hF := bd_s hF; obtain ⟨q0j, q0z, hF⟩ := hF
  refine x_seq <| x_region <| p (yl_assign rfl) <| x_done <|
    x_seq <| x_region <| p (yl_move rfl) <| p (yl_nilCheck rfl) <|
    p (yl_field0 fld_257_0 rfl) <| pa (v := .agg #[.int .i64 m0.fc.Rows, .int .i64 m0.fc.Cols, .int .i64 m0.fc.Tracks, .slice q7 m0.fc.Tiles.length c_m0_3, .slice q8 m0.fc.In.length c_m0_4, .slice q9 m0.fc.Out.length c_m0_5]) (ld_sub agg_81 rfl rfl rfl hS) <| p (yl_move rfl) <| p (yl_move rfl) <|
    p (yl_move rfl) <|
    ?_
  have hcall := c_array_Config_into q0z q0q q0r q0s (hS.pull 5)
  refine o_cc call_157 (args4 rfl rfl rfl rfl) ((Calls.mono hcall (fun e w'' h => And.intro h.1 (((((h.2.pull 5).pull 5).pull 5).pull 5).pull 5)))) ?_
  rintro e w' ⟨rfl, hS⟩
  refine ⟨_, rfl, ?_⟩
  refine p (v := .int .i64 q0j) (yl_assign rfl) <| x_done <| x_seq <| x_seq <|
    x_region <| p (v := .int .i64 q0j) (yl_move rfl) <| p (yl_geq rfl rfl) <| x_done <|
    x_cond_p (0 ≤ q0j) rfl (fun hc21 => ?_) (fun hc21 => ?_)
  · replace hF := it_t hc21 hF
    replace hF := ck_s hF; obtain ⟨q0u, hF⟩ := hF
    replace hF := lv_s hF; obtain ⟨x28, hx28, hF⟩ := hF
    refine x_seq <| x_region <| p (yl_move rfl) <| p (yl_nilCheck rfl) <|
      p (yl_field0 fld_257_2 rfl) <| pa (at_load one_124 rfl (hS.cell rfl)) <| p (v := .int .i64 q0j) (yl_move rfl) <| p (yix_o sl_124 rfl rfl (hS.pull 2) q0n q0u) <|
      pa (at_load one_4 rfl (RepL.getW q0n (hS.pull 2) q0u hx28)) <| p (yl_assign rfl) <| x_done <|
      ?_
    have e_ := Option.some.inj (show some _ = some _ from hF); subst e_
    exact x_return ⟨_, ⟨_, _, rfl, rfl, rfl⟩, rfl, ((((((hS.pull 5).pull 5).pull 5).pull 5).pull 5).pull 5)⟩
  · replace hF := it_f hc21 hF
    replace hF := ar_s hF; obtain ⟨x30, hx30, hF⟩ := hF
    replace hF := ck_s hF; obtain ⟨q10, hF⟩ := hF
    replace hF := lv_s hF; obtain ⟨x37, hx37, hF⟩ := hF
    replace hF := ck_s hF; obtain ⟨q0v, hF⟩ := hF
    replace hF := lv_s hF; obtain ⟨x39, hx39, hF⟩ := hF
    replace hF := lv_s hF; obtain ⟨x40, hx40, hF⟩ := hF
    refine x_skip <| x_seq <| x_region <| p (v := .int .i64 q0j) (yl_move rfl) <|
      p (ysub rfl rfl hx30) <| p (yl_move rfl) <| p (yl_len_slice usl_124 rfl) <| p (yl_lss rfl rfl) <|
      p (yl_move rfl) <| pg (v := .slice q0e q6.length c_in_1) 34 (c := decide (x30 < (q6.length : Int))) (says_t _) (fun hq => Yl.at (yl_move rfl)) <| pg (v := .int .i64 q0j) 34 (c := decide (x30 < (q6.length : Int))) (says_t _) (fun hq => Yl.at (yl_move rfl)) <| pg (v := .int .i64 x37) 34 (c := decide (x30 < (q6.length : Int))) (says_t _) (fun hq => Yl.at (ysub rfl (cv hq) ⟨hx37, (q10 hq)⟩)) <|
      pg (v := .pointer (some ((adr q0e).add (x37.toNat * RpB.sz)))) 34 (c := decide (x30 < (q6.length : Int))) (says_t _) (fun hq => Yl.at (yix_f sl_124 (cv hq) (cv hq) q0o (q0v hq))) <| pg (v := .bool x39) 34 (c := decide (x30 < (q6.length : Int))) (says_t _) (fun hq => at_load one_4 (cv hq) (RdS.getW q0o (hS.pull 5) (q0v hq) hx39)) <| p (yand' rfl (fun hc => (cv hc)) rfl hx40) <| p (yl_assign rfl) <|
      x_done <|
      ?_
    have e_ := Option.some.inj (show some _ = some _ from hF); subst e_
    exact x_return ⟨_, ⟨_, _, rfl, rfl, rfl⟩, rfl, ((((((hS.pull 5).pull 5).pull 5).pull 5).pull 5).pull 5)⟩
attribute [irreducible] P_array_machine_value

def P_array_machine_look (m0 : T_array_machine) (q7 : List Bool) (tile2 : Int) : Option (List Bool) :=
  ck (inb tile2 m0.fc.Tiles.length) <|
  lv (gt m0.fc.Tiles tile2) fun q2 =>
  ar ((4 : Int) * m0.fc.Tracks) fun x32u4 =>
  ar ((1 : Int) + x32u4) fun x33u4 =>
  bd (
    if q2.In.fe0 = x33u4 then
      ck (inb tile2 m0.fflop.length) <|
      lv (gt m0.fflop tile2) fun x41u4 =>
      some x41u4
    else
      bd (
        if 0 < q2.In.fe0 then
          ar (q2.In.fe0 - 1) fun x49u4 =>
          ck (m0.fc.Tracks ≠ 0) <|
          ar (Int.tdiv x49u4 m0.fc.Tracks) fun x55u4 =>
          ar (q2.In.fe0 - 1) fun x57u4 =>
          ck (m0.fc.Tracks ≠ 0) <|
          lv (Int.tmod x57u4 m0.fc.Tracks) fun x63u4 =>
          bd (P_array_machine_value m0 q7 tile2 x55u4 x63u4) fun q0g =>
          some q0g
        else
          some false) fun q8 =>
      some q8) fun q9 =>
  bd (
    if q9 = true then
      ck (0 ≤ (0 : Int)) <|
      lv (shl .i64 (1 : Int) 0) fun x68u4 =>
      lv (bOr .i64 (0 : Int) x68u4) fun x69u4 =>
      some x69u4
    else
      some (0 : Int)) fun q3 =>
  ar ((4 : Int) * m0.fc.Tracks) fun x32u3 =>
  ar ((1 : Int) + x32u3) fun x33u3 =>
  bd (
    if q2.In.fe1 = x33u3 then
      ck (inb tile2 m0.fflop.length) <|
      lv (gt m0.fflop tile2) fun x41u3 =>
      some x41u3
    else
      bd (
        if 0 < q2.In.fe1 then
          ar (q2.In.fe1 - 1) fun x49u3 =>
          ck (m0.fc.Tracks ≠ 0) <|
          ar (Int.tdiv x49u3 m0.fc.Tracks) fun x55u3 =>
          ar (q2.In.fe1 - 1) fun x57u3 =>
          ck (m0.fc.Tracks ≠ 0) <|
          lv (Int.tmod x57u3 m0.fc.Tracks) fun x63u3 =>
          bd (P_array_machine_value m0 q7 tile2 x55u3 x63u3) fun q0h =>
          some q0h
        else
          some false) fun q0a =>
      some q0a) fun q0b =>
  bd (
    if q0b = true then
      ck (0 ≤ (1 : Int)) <|
      lv (shl .i64 (1 : Int) 1) fun x68u3 =>
      lv (bOr .i64 q3 x68u3) fun x69u3 =>
      some x69u3
    else
      some q3) fun q4 =>
  ar ((4 : Int) * m0.fc.Tracks) fun x32u2 =>
  ar ((1 : Int) + x32u2) fun x33u2 =>
  bd (
    if q2.In.fe2 = x33u2 then
      ck (inb tile2 m0.fflop.length) <|
      lv (gt m0.fflop tile2) fun x41u2 =>
      some x41u2
    else
      bd (
        if 0 < q2.In.fe2 then
          ar (q2.In.fe2 - 1) fun x49u2 =>
          ck (m0.fc.Tracks ≠ 0) <|
          ar (Int.tdiv x49u2 m0.fc.Tracks) fun x55u2 =>
          ar (q2.In.fe2 - 1) fun x57u2 =>
          ck (m0.fc.Tracks ≠ 0) <|
          lv (Int.tmod x57u2 m0.fc.Tracks) fun x63u2 =>
          bd (P_array_machine_value m0 q7 tile2 x55u2 x63u2) fun q0i =>
          some q0i
        else
          some false) fun q0c =>
      some q0c) fun q0d =>
  bd (
    if q0d = true then
      ck (0 ≤ (2 : Int)) <|
      lv (shl .i64 (1 : Int) 2) fun x68u2 =>
      lv (bOr .i64 q4 x68u2) fun x69u2 =>
      some x69u2
    else
      some q4) fun q5 =>
  ar ((4 : Int) * m0.fc.Tracks) fun x32u1 =>
  ar ((1 : Int) + x32u1) fun x33u1 =>
  bd (
    if q2.In.fe3 = x33u1 then
      ck (inb tile2 m0.fflop.length) <|
      lv (gt m0.fflop tile2) fun x41u1 =>
      some x41u1
    else
      bd (
        if 0 < q2.In.fe3 then
          ar (q2.In.fe3 - 1) fun x49u1 =>
          ck (m0.fc.Tracks ≠ 0) <|
          ar (Int.tdiv x49u1 m0.fc.Tracks) fun x55u1 =>
          ar (q2.In.fe3 - 1) fun x57u1 =>
          ck (m0.fc.Tracks ≠ 0) <|
          lv (Int.tmod x57u1 m0.fc.Tracks) fun x63u1 =>
          bd (P_array_machine_value m0 q7 tile2 x55u1 x63u1) fun q0j =>
          some q0j
        else
          some false) fun q0e =>
      some q0e) fun q0f =>
  bd (
    if q0f = true then
      ck (0 ≤ (3 : Int)) <|
      lv (shl .i64 (1 : Int) 3) fun x68u1 =>
      lv (bOr .i64 q5 x68u1) fun x69u1 =>
      some x69u1
    else
      some q5) fun q6 =>
  ck (0 ≤ q6) <|
  lv (shr .u16 q2.Table q6) fun x79 =>
  lv (bAnd .u16 x79 1) fun x80 =>
  ck (inb tile2 m0.ftable.length) <|
  lv (stt m0.ftable tile2 (decide (x80 = 1))) fun q0k =>
  some q0k
set_option maxHeartbeats 4000000 in
set_option maxRecDepth 100000 in
theorem c_array_machine_look {w0 w : World} {l : List Assn} {ρ : Heap} {q7 : Nat} {q0c : Option Addr} {q28 : Nat} {c_m0_3 : Nat} {q0d : Option Addr} {q29 : Nat} {c_m0_4 : Nat} {q0e : Option Addr} {q2a : Nat} {c_m0_5 : Nat} {q3 : Option Addr} {q1c : Nat} {c_m0_6 : Nat} {q8 : List Value} {q4 : Option Addr} {q1d : Nat} {c_m0_7 : Nat} {q9 : List Value} {q5 : Option Addr} {q1e : Nat} {c_m0_8 : Nat} {q0b : List Value} {q6 : Option Addr} {q1f : Nat} {c_m0_9 : Nat} {q0a : List Value} {q0f : Option Addr} {q30 : Nat} {c_in_1 : Nat} {m0 : T_array_machine} {q0v : List Bool} {tile2 : Int} {r : List Bool} (hF : P_array_machine_look m0 q0v tile2 = some r) (q0w : RdS R_array_Tile ρ q0c q28 c_m0_3 m0.fc.Tiles) (q1k : RdS R_array_Pad ρ q0d q29 c_m0_4 m0.fc.In) (q1l : RdS R_array_Pad ρ q0e q2a c_m0_5 m0.fc.Out) (q1m : RepL (RpI .i64) ρ m0.forder q8) (q1n : RepL RpB ρ m0.fwires q9) (q0x : RepL RpB ρ m0.ftable q0b) (q0o : RepL RpB ρ m0.fflop q0a) (q1o : RdS RpB ρ q0f q30 c_in_1 q0v) (hS : St w0 w (cells q7 257 [.int .i64 m0.fc.Rows, .int .i64 m0.fc.Cols, .int .i64 m0.fc.Tracks, .slice q0c q28 c_m0_3, .slice q0d q29 c_m0_4, .slice q0e q2a c_m0_5, .slice q3 q1c c_m0_6, .slice q4 q1d c_m0_7, .slice q5 q1e c_m0_8, .slice q6 q1f c_m0_9] :: vec 3 (RpI .i64).sz (.slice q3 q1c c_m0_6) q1c q8 :: vec 4 RpB.sz (.slice q4 q1d c_m0_7) q1d q9 :: vec 4 RpB.sz (.slice q5 q1e c_m0_8) q1e q0b :: vec 4 RpB.sz (.slice q6 q1f c_m0_9) q1f q0a :: ro ρ :: l)) :
    Calls Try.prog 144 #[.pointer (some ⟨q7, 0, none⟩), .slice q0f q30 c_in_1, .int .i64 tile2] w fun e w' => ∃ (q1g : List Value), e = .returned (.tuple #[]) ∧ RepL RpB ρ r q1g ∧ St w0 w' (cells q7 257 [.int .i64 m0.fc.Rows, .int .i64 m0.fc.Cols, .int .i64 m0.fc.Tracks, .slice q0c q28 c_m0_3, .slice q0d q29 c_m0_4, .slice q0e q2a c_m0_5, .slice q3 q1c c_m0_6, .slice q4 q1d c_m0_7, .slice q5 q1e c_m0_8, .slice q6 q1f c_m0_9] :: vec 3 (RpI .i64).sz (.slice q3 q1c c_m0_6) q1c q8 :: vec 4 RpB.sz (.slice q4 q1d c_m0_7) q1d q9 :: vec 4 RpB.sz (.slice q5 q1e c_m0_8) q1e q1g :: vec 4 RpB.sz (.slice q6 q1f c_m0_9) q1f q0a :: ro ρ :: l) := by
  have e_ := q0w.n; subst e_
  have e_ := q1k.n; subst e_
  have e_ := q1l.n; subst e_
  have e_ := St.vec_n (hS.pull 1) q1m; subst e_
  have e_ := St.vec_n (hS.pull 2) q1n; subst e_
  have e_ := St.vec_n (hS.pull 3) q0x; subst e_
  have e_ := St.vec_n (hS.pull 4) q0o; subst e_
  have e_ := q1o.n; subst e_
  refine enterC Try.func144 rfl 83 rfl (by simp) ?_
  replace hF := ck_s hF; obtain ⟨q4x, hF⟩ := hF
  replace hF := lv_s hF; obtain ⟨q2, q57, hF⟩ := hF
  have q_ := q0w.get q4x; obtain ⟨q5g, q4y, q58⟩ := q_
  rw [← q57] at q4y
  obtain ⟨q0g, q5b, q0h, q0i, q5c, q0j, q0k, q5d, q0l, q0m, q5e, q0n, rfl, q52, q53, q54, q55⟩ := q4y
  have e_ := q52.n; subst e_
  have e_ := q53.n; subst e_
  have e_ := q54.n; subst e_
  have e_ := q55.n; subst e_
  refine x_seq <| x_region <| p (yl_move rfl) <| p (yl_nilCheck rfl) <|
    p (yl_field0 fld_257_0 rfl) <| p (yl_field0 fld_81_3 rfl) <| pa (at_load one_78 rfl (hS.cell rfl)) <| p (yl_move rfl) <|
    p (yix_f sl_78 rfl rfl q0w q4x) <| pa (v := .agg #[.int .u16 q2.Table, .bool q2.Init, .int .i64 q2.In.fe0, .int .i64 q2.In.fe1, .int .i64 q2.In.fe2, .int .i64 q2.In.fe3, .slice q0g q2.Out.fe0.length q0h, .slice q0i q2.Out.fe1.length q0j, .slice q0k q2.Out.fe2.length q0l, .slice q0m q2.Out.fe3.length q0n]) (at_loadAgg agg_183 rfl rfl (Elt.every q58 (hS.pull 5))) <|
    ?_
  refine o_alloc zero_183 hS (fun b6 w' hS => ?_)
  refine o_storeAgg (news := [.int .u16 q2.Table, .bool q2.Init, .int .i64 q2.In.fe0, .int .i64 q2.In.fe1, .int .i64 q2.In.fe2, .int .i64 q2.In.fe3, .slice q0g q2.Out.fe0.length q0h, .slice q0i q2.Out.fe1.length q0j, .slice q0k q2.Out.fe2.length q0l, .slice q0m q2.Out.fe3.length q0n]) agg_183 rfl rfl rfl (by simp [over_length]) hS (fun w' hS => ?_)
  replace hF := ar_s hF; obtain ⟨x32u4, hx32u4, hF⟩ := hF
  replace hF := ar_s hF; obtain ⟨x33u4, hx33u4, hF⟩ := hF
  refine x_done <| x_seq <| x_region <| p (yl_assign rfl) <|
    x_done <| x_seq <| x_seq <| x_region <|
    p (yl_field0 fld_183_2 rfl) <| pa (v := .agg #[.int .i64 q2.In.fe0, .int .i64 q2.In.fe1, .int .i64 q2.In.fe2, .int .i64 q2.In.fe3]) (ld_sub agg_180 rfl rfl rfl hS) <| p (yl_move rfl) <| x_done <|
    x_block <| x_unroll 4 <| x_seq <| x_region <|
    p (ylss_l (t := true) rfl rfl (by decide)) <| x_done <| x_seq <| x_cond_t (show ev _ _ = .bool true from rfl) <|
    x_skip <| x_seq <| x_block <| x_seq <|
    x_region <| p (yl_move rfl) <| p (yl_ixv (x := .tmp 20) (y := .tmp 21) (v := .int .i64 q2.In.fe0) arr_180 one_3 rfl rfl (by decide) rfl) <| p (yl_assign rfl) <|
    p (yl_assign rfl) <| x_done <| x_seq <| x_region <|
    p (yl_assign rfl) <| x_done <| x_seq <| x_block <|
    x_seq <| x_region <| p (yl_move rfl) <| p (yl_move rfl) <|
    p (yl_nilCheck rfl) <| p (yl_field0 fld_257_0 rfl) <| p (yl_field0 fld_81_2 rfl) <| pa (at_load one_3 rfl ((hS.pull 1).cell rfl)) <|
    p (ymul rfl rfl hx32u4) <| p (yadd rfl rfl hx33u4) <| p (yl_eql rfl rfl) <| p (yl_assign rfl) <|
    x_done <|
    ?_
  replace hF := bd_s hF; obtain ⟨oc25u4, hFc25u4, hF⟩ := hF
  refine x_join (fun E w => ∃ (q11 : Bool), q11 = oc25u4 ∧ E 0 = .pointer (some ⟨q7, 0, none⟩) ∧ E 1 = .slice q0f q0v.length c_in_1 ∧ E 2 = .int .i64 tile2 ∧ E 6 = .pointer (some ⟨b6, 0, none⟩) ∧ E 7 = .int .i64 0 ∧ E 8 = .int .i64 0 ∧ E 10 = .bool q11 ∧ E 20 = .agg #[.int .i64 q2.In.fe0, .int .i64 q2.In.fe1, .int .i64 q2.In.fe2, .int .i64 q2.In.fe3] ∧ E 21 = .int .i64 0 ∧ St w0 w (cells q7 257 [.int .i64 m0.fc.Rows, .int .i64 m0.fc.Cols, .int .i64 m0.fc.Tracks, .slice q0c m0.fc.Tiles.length c_m0_3, .slice q0d m0.fc.In.length c_m0_4, .slice q0e m0.fc.Out.length c_m0_5, .slice q3 m0.forder.length c_m0_6, .slice q4 m0.fwires.length c_m0_7, .slice q5 m0.ftable.length c_m0_8, .slice q6 m0.fflop.length c_m0_9] :: cells b6 183 [.int .u16 q2.Table, .bool q2.Init, .int .i64 q2.In.fe0, .int .i64 q2.In.fe1, .int .i64 q2.In.fe2, .int .i64 q2.In.fe3, .slice q0g q2.Out.fe0.length q0h, .slice q0i q2.Out.fe1.length q0j, .slice q0k q2.Out.fe2.length q0l, .slice q0m q2.Out.fe3.length q0n] :: vec 3 (RpI .i64).sz (.slice q3 m0.forder.length c_m0_6) m0.forder.length q8 :: vec 4 RpB.sz (.slice q4 m0.fwires.length c_m0_7) m0.fwires.length q9 :: vec 4 RpB.sz (.slice q5 m0.ftable.length c_m0_8) m0.ftable.length q0b :: vec 4 RpB.sz (.slice q6 m0.fflop.length c_m0_9) m0.fflop.length q0a :: ro ρ :: l)) ?_ ?_
  · skip -- c25u4
    refine x_cond_p (q2.In.fe0 = x33u4) rfl (fun hc25u4 => ?_) (fun hc25u4 => ?_)
    · replace hFc25u4 := it_t hc25u4 hFc25u4
      replace hFc25u4 := ck_s hFc25u4; obtain ⟨q2v, hFc25u4⟩ := hFc25u4
      replace hFc25u4 := lv_s hFc25u4; obtain ⟨x41u4, hx41u4, hFc25u4⟩ := hFc25u4
      refine x_region <| p (yl_move rfl) <| p (yl_nilCheck rfl) <| p (yl_field0 fld_257_4 rfl) <|
        pa (at_load one_124 rfl ((hS.pull 1).cell rfl)) <| p (yl_move rfl) <| p (yix_o sl_124 rfl rfl (hS.pull 5) q0o q2v) <| pa (at_load one_4 rfl (RepL.getW q0o (hS.pull 5) q2v hx41u4)) <|
        p (yl_assign rfl) <| x_done <|
        ?_
      exact x_inv ⟨x41u4, (Option.some.inj (show some _ = some _ from hFc25u4)), rfl, rfl, rfl, rfl, rfl, rfl, rfl, rfl, rfl, (((((((hS.pull 6).pull 6).pull 6).pull 6).pull 6).pull 5).pull 6)⟩
    · replace hFc25u4 := it_f hc25u4 hFc25u4
      refine x_seq <| x_region <| p (yl_move rfl) <| p (yl_gtr rfl rfl) <|
        p (yl_assign rfl) <| x_done <|
        ?_
      replace hFc25u4 := bd_s hFc25u4; obtain ⟨oc42u4, hFc42u4, hFc25u4⟩ := hFc25u4
      refine x_join (fun E w => ∃ (q12 : Bool), q12 = oc42u4 ∧ E 0 = .pointer (some ⟨q7, 0, none⟩) ∧ E 1 = .slice q0f q0v.length c_in_1 ∧ E 2 = .int .i64 tile2 ∧ E 6 = .pointer (some ⟨b6, 0, none⟩) ∧ E 7 = .int .i64 0 ∧ E 8 = .int .i64 0 ∧ E 10 = .bool q12 ∧ E 20 = .agg #[.int .i64 q2.In.fe0, .int .i64 q2.In.fe1, .int .i64 q2.In.fe2, .int .i64 q2.In.fe3] ∧ E 21 = .int .i64 0 ∧ St w0 w (cells q7 257 [.int .i64 m0.fc.Rows, .int .i64 m0.fc.Cols, .int .i64 m0.fc.Tracks, .slice q0c m0.fc.Tiles.length c_m0_3, .slice q0d m0.fc.In.length c_m0_4, .slice q0e m0.fc.Out.length c_m0_5, .slice q3 m0.forder.length c_m0_6, .slice q4 m0.fwires.length c_m0_7, .slice q5 m0.ftable.length c_m0_8, .slice q6 m0.fflop.length c_m0_9] :: cells b6 183 [.int .u16 q2.Table, .bool q2.Init, .int .i64 q2.In.fe0, .int .i64 q2.In.fe1, .int .i64 q2.In.fe2, .int .i64 q2.In.fe3, .slice q0g q2.Out.fe0.length q0h, .slice q0i q2.Out.fe1.length q0j, .slice q0k q2.Out.fe2.length q0l, .slice q0m q2.Out.fe3.length q0n] :: vec 3 (RpI .i64).sz (.slice q3 m0.forder.length c_m0_6) m0.forder.length q8 :: vec 4 RpB.sz (.slice q4 m0.fwires.length c_m0_7) m0.fwires.length q9 :: vec 4 RpB.sz (.slice q5 m0.ftable.length c_m0_8) m0.ftable.length q0b :: vec 4 RpB.sz (.slice q6 m0.fflop.length c_m0_9) m0.fflop.length q0a :: ro ρ :: l)) ?_ ?_
      · skip -- c42u4
        refine x_cond_p (0 < q2.In.fe0) rfl (fun hc42u4 => ?_) (fun hc42u4 => ?_)
        · replace hFc42u4 := it_t hc42u4 hFc42u4
          replace hFc42u4 := ar_s hFc42u4; obtain ⟨x49u4, hx49u4, hFc42u4⟩ := hFc42u4
          replace hFc42u4 := ck_s hFc42u4; obtain ⟨q3l, hFc42u4⟩ := hFc42u4
          replace hFc42u4 := ar_s hFc42u4; obtain ⟨x55u4, hx55u4, hFc42u4⟩ := hFc42u4
          replace hFc42u4 := ar_s hFc42u4; obtain ⟨x57u4, hx57u4, hFc42u4⟩ := hFc42u4
          replace hFc42u4 := ck_s hFc42u4; obtain ⟨q3m, hFc42u4⟩ := hFc42u4
          replace hFc42u4 := lv_s hFc42u4; obtain ⟨x63u4, hx63u4, hFc42u4⟩ := hFc42u4
          replace hFc42u4 := bd_s hFc42u4; obtain ⟨q1w, q3n, hFc42u4⟩ := hFc42u4
          refine x_still mixed (by kernel_rfl) hS <| q (yl_move rfl) <| q (yl_move rfl) <| q (yl_move rfl) <|
            q (yl_move rfl) <| q (ysub rfl rfl hx49u4) <| q (yl_move rfl) <| q (yl_nilCheck rfl) <|
            q (yl_field0 fld_257_0 rfl) <| q (yl_field0 fld_81_2 rfl) <| qa (fun w' hS => at_load one_3 rfl ((hS.pull 1).cell rfl)) <| q (yquo rfl rfl q3l hx55u4) <|
            q (yl_move rfl) <| q (ysub rfl rfl hx57u4) <| q (yl_move rfl) <| q (yl_nilCheck rfl) <|
            q (yl_field0 fld_257_0 rfl) <| q (yl_field0 fld_81_2 rfl) <| qa (fun w' hS => at_load one_3 rfl ((hS.pull 1).cell rfl)) <| q (yrem rfl rfl q3m hx63u4) <|
            qcc (v := .bool q1w) call_145 (args5 rfl rfl rfl rfl rfl) (fun w' hS => by
              have hcall := c_array_machine_value q3n q0w q1k q1l q1m q1n q0x q0o q1o ((((((hS.pull 6).pull 6).pull 6).pull 6).pull 6).pull 6)
              exact (Calls.mono hcall (fun e w'' h => And.intro h.1 (((((((h.2.pull 5).pull 5).pull 5).pull 5).pull 5).pull 5).pull 6)))) <| q (v := .bool q1w) (yl_assign rfl) <|
            q_done fun w' hS => ?_
          exact x_inv ⟨q1w, (Option.some.inj (show some _ = some _ from hFc42u4)), rfl, rfl, rfl, rfl, rfl, rfl, rfl, rfl, rfl, (((((((hS.pull 6).pull 6).pull 6).pull 6).pull 6).pull 5).pull 6)⟩
        · replace hFc42u4 := it_f hc42u4 hFc42u4
          refine x_skip <|
            ?_
          exact x_inv ⟨false, (Option.some.inj (show some _ = some _ from hFc42u4)), rfl, rfl, rfl, rfl, rfl, rfl, rfl, rfl, rfl, (((((((hS.pull 6).pull 6).pull 6).pull 6).pull 6).pull 5).pull 6)⟩
      rintro E w ⟨q12, rfl, q3o, q3p, q3q, q3r, q3s, q3t, q31, q32, q33, hS⟩
      exact x_inv ⟨q12, (Option.some.inj (show some _ = some _ from hFc25u4)), q3o, q3p, q3q, q3r, q3s, q3t, q31, q32, q33, (((((((hS.pull 6).pull 6).pull 6).pull 6).pull 6).pull 6).pull 6)⟩
  rintro E w ⟨q11, rfl, q2b, q2c, q2d, q2e, q2f, q3u, q34, q20, q21, hS⟩
  refine x_blk <| x_seq <| x_region <| p (yl_move q34) <|
    x_done <|
    ?_
  replace hF := bd_s hF; obtain ⟨oc65u4, hFc65u4, hF⟩ := hF
  refine x_join (fun E w => ∃ (q0s : Int), q0s = oc65u4 ∧ E 0 = .pointer (some ⟨q7, 0, none⟩) ∧ E 1 = .slice q0f q0v.length c_in_1 ∧ E 2 = .int .i64 tile2 ∧ E 6 = .pointer (some ⟨b6, 0, none⟩) ∧ E 7 = .int .i64 q0s ∧ E 20 = .agg #[.int .i64 q2.In.fe0, .int .i64 q2.In.fe1, .int .i64 q2.In.fe2, .int .i64 q2.In.fe3] ∧ E 21 = .int .i64 0 ∧ St w0 w (cells q7 257 [.int .i64 m0.fc.Rows, .int .i64 m0.fc.Cols, .int .i64 m0.fc.Tracks, .slice q0c m0.fc.Tiles.length c_m0_3, .slice q0d m0.fc.In.length c_m0_4, .slice q0e m0.fc.Out.length c_m0_5, .slice q3 m0.forder.length c_m0_6, .slice q4 m0.fwires.length c_m0_7, .slice q5 m0.ftable.length c_m0_8, .slice q6 m0.fflop.length c_m0_9] :: cells b6 183 [.int .u16 q2.Table, .bool q2.Init, .int .i64 q2.In.fe0, .int .i64 q2.In.fe1, .int .i64 q2.In.fe2, .int .i64 q2.In.fe3, .slice q0g q2.Out.fe0.length q0h, .slice q0i q2.Out.fe1.length q0j, .slice q0k q2.Out.fe2.length q0l, .slice q0m q2.Out.fe3.length q0n] :: vec 3 (RpI .i64).sz (.slice q3 m0.forder.length c_m0_6) m0.forder.length q8 :: vec 4 RpB.sz (.slice q4 m0.fwires.length c_m0_7) m0.fwires.length q9 :: vec 4 RpB.sz (.slice q5 m0.ftable.length c_m0_8) m0.ftable.length q0b :: vec 4 RpB.sz (.slice q6 m0.fflop.length c_m0_9) m0.fflop.length q0a :: ro ρ :: l)) ?_ ?_
  · skip -- c65u4
    refine x_cond (t := q11) rfl (fun hc65u4 => ?_) (fun hc65u4 => ?_)
    · replace hFc65u4 := it_t hc65u4 hFc65u4
      replace hFc65u4 := ck_s hFc65u4; obtain ⟨q3v, hFc65u4⟩ := hFc65u4
      replace hFc65u4 := lv_s hFc65u4; obtain ⟨x68u4, hx68u4, hFc65u4⟩ := hFc65u4
      replace hFc65u4 := lv_s hFc65u4; obtain ⟨x69u4, hx69u4, hFc65u4⟩ := hFc65u4
      refine x_region <| p (yl_move q2f) <| p (yl_move q3u) <| p (yshl rfl rfl q3v hx68u4) <|
        p (yor rfl rfl hx69u4) <| p (yl_assign rfl) <| x_done <|
        ?_
      exact x_inv ⟨x69u4, (Option.some.inj (show some _ = some _ from hFc65u4)), q2b, q2c, q2d, q2e, rfl, q20, q21, (((((((hS.pull 6).pull 6).pull 6).pull 6).pull 6).pull 6).pull 6)⟩
    · replace hFc65u4 := it_bf hc65u4 hFc65u4
      refine x_skip <|
        ?_
      exact x_inv ⟨0, (Option.some.inj (show some _ = some _ from hFc65u4)), q2b, q2c, q2d, q2e, q2f, q20, q21, (((((((hS.pull 6).pull 6).pull 6).pull 6).pull 6).pull 6).pull 6)⟩
  rintro E w ⟨q0s, rfl, q0p, q1h, q0y, q1q, q1r, q13, q35, hS⟩
  replace hF := ar_s hF; obtain ⟨x32u3, hx32u3, hF⟩ := hF
  replace hF := ar_s hF; obtain ⟨x33u3, hx33u3, hF⟩ := hF
  refine x_blk <| x_region <| p (yadd (c := 1) q35 rfl ⟨rfl, by decide⟩) <| p (yl_move rfl) <|
    x_done <| x_un 3 <| x_seq <| x_region <|
    p (ylss_l (t := true) rfl rfl (by decide)) <| x_done <| x_seq <| x_cond_t (show ev _ _ = .bool true from rfl) <|
    x_skip <| x_seq <| x_block <| x_seq <|
    x_region <| p (yl_move rfl) <| p (yl_ixv (x := .tmp 20) (y := .tmp 21) (v := .int .i64 q2.In.fe1) arr_180 one_3 q13 rfl (by decide) rfl) <| p (yl_assign rfl) <|
    p (yl_assign rfl) <| x_done <| x_seq <| x_region <|
    p (yl_assign rfl) <| x_done <| x_seq <| x_block <|
    x_seq <| x_region <| p (yl_move rfl) <| p (yl_move q0p) <|
    p (yl_nilCheck rfl) <| p (yl_field0 fld_257_0 rfl) <| p (yl_field0 fld_81_2 rfl) <| pa (at_load one_3 rfl (hS.cell rfl)) <|
    p (ymul rfl rfl hx32u3) <| p (yadd rfl rfl hx33u3) <| p (yl_eql rfl rfl) <| p (yl_assign rfl) <|
    x_done <|
    ?_
  replace hF := bd_s hF; obtain ⟨oc25u3, hFc25u3, hF⟩ := hF
  refine x_join (fun E w => ∃ (q14 : Bool), q14 = oc25u3 ∧ E 0 = .pointer (some ⟨q7, 0, none⟩) ∧ E 1 = .slice q0f q0v.length c_in_1 ∧ E 2 = .int .i64 tile2 ∧ E 6 = .pointer (some ⟨b6, 0, none⟩) ∧ E 7 = .int .i64 q0s ∧ E 8 = .int .i64 1 ∧ E 10 = .bool q14 ∧ E 20 = .agg #[.int .i64 q2.In.fe0, .int .i64 q2.In.fe1, .int .i64 q2.In.fe2, .int .i64 q2.In.fe3] ∧ E 21 = .int .i64 1 ∧ St w0 w (cells q7 257 [.int .i64 m0.fc.Rows, .int .i64 m0.fc.Cols, .int .i64 m0.fc.Tracks, .slice q0c m0.fc.Tiles.length c_m0_3, .slice q0d m0.fc.In.length c_m0_4, .slice q0e m0.fc.Out.length c_m0_5, .slice q3 m0.forder.length c_m0_6, .slice q4 m0.fwires.length c_m0_7, .slice q5 m0.ftable.length c_m0_8, .slice q6 m0.fflop.length c_m0_9] :: cells b6 183 [.int .u16 q2.Table, .bool q2.Init, .int .i64 q2.In.fe0, .int .i64 q2.In.fe1, .int .i64 q2.In.fe2, .int .i64 q2.In.fe3, .slice q0g q2.Out.fe0.length q0h, .slice q0i q2.Out.fe1.length q0j, .slice q0k q2.Out.fe2.length q0l, .slice q0m q2.Out.fe3.length q0n] :: vec 3 (RpI .i64).sz (.slice q3 m0.forder.length c_m0_6) m0.forder.length q8 :: vec 4 RpB.sz (.slice q4 m0.fwires.length c_m0_7) m0.fwires.length q9 :: vec 4 RpB.sz (.slice q5 m0.ftable.length c_m0_8) m0.ftable.length q0b :: vec 4 RpB.sz (.slice q6 m0.fflop.length c_m0_9) m0.fflop.length q0a :: ro ρ :: l)) ?_ ?_
  · skip -- c25u3
    refine x_cond_p (q2.In.fe1 = x33u3) rfl (fun hc25u3 => ?_) (fun hc25u3 => ?_)
    · replace hFc25u3 := it_t hc25u3 hFc25u3
      replace hFc25u3 := ck_s hFc25u3; obtain ⟨q2w, hFc25u3⟩ := hFc25u3
      replace hFc25u3 := lv_s hFc25u3; obtain ⟨x41u3, hx41u3, hFc25u3⟩ := hFc25u3
      refine x_region <| p (yl_move q0p) <| p (yl_nilCheck rfl) <| p (yl_field0 fld_257_4 rfl) <|
        pa (at_load one_124 rfl (hS.cell rfl)) <| p (yl_move q0y) <| p (yix_o sl_124 rfl rfl (hS.pull 5) q0o q2w) <| pa (at_load one_4 rfl (RepL.getW q0o (hS.pull 5) q2w hx41u3)) <|
        p (yl_assign rfl) <| x_done <|
        ?_
      exact x_inv ⟨x41u3, (Option.some.inj (show some _ = some _ from hFc25u3)), q0p, q1h, q0y, q1q, q1r, rfl, rfl, q13, rfl, (((((((hS.pull 6).pull 6).pull 6).pull 6).pull 6).pull 6).pull 6)⟩
    · replace hFc25u3 := it_f hc25u3 hFc25u3
      refine x_seq <| x_region <| p (yl_move rfl) <| p (yl_gtr rfl rfl) <|
        p (yl_assign rfl) <| x_done <|
        ?_
      replace hFc25u3 := bd_s hFc25u3; obtain ⟨oc42u3, hFc42u3, hFc25u3⟩ := hFc25u3
      refine x_join (fun E w => ∃ (q15 : Bool), q15 = oc42u3 ∧ E 0 = .pointer (some ⟨q7, 0, none⟩) ∧ E 1 = .slice q0f q0v.length c_in_1 ∧ E 2 = .int .i64 tile2 ∧ E 6 = .pointer (some ⟨b6, 0, none⟩) ∧ E 7 = .int .i64 q0s ∧ E 8 = .int .i64 1 ∧ E 10 = .bool q15 ∧ E 20 = .agg #[.int .i64 q2.In.fe0, .int .i64 q2.In.fe1, .int .i64 q2.In.fe2, .int .i64 q2.In.fe3] ∧ E 21 = .int .i64 1 ∧ St w0 w (cells q7 257 [.int .i64 m0.fc.Rows, .int .i64 m0.fc.Cols, .int .i64 m0.fc.Tracks, .slice q0c m0.fc.Tiles.length c_m0_3, .slice q0d m0.fc.In.length c_m0_4, .slice q0e m0.fc.Out.length c_m0_5, .slice q3 m0.forder.length c_m0_6, .slice q4 m0.fwires.length c_m0_7, .slice q5 m0.ftable.length c_m0_8, .slice q6 m0.fflop.length c_m0_9] :: cells b6 183 [.int .u16 q2.Table, .bool q2.Init, .int .i64 q2.In.fe0, .int .i64 q2.In.fe1, .int .i64 q2.In.fe2, .int .i64 q2.In.fe3, .slice q0g q2.Out.fe0.length q0h, .slice q0i q2.Out.fe1.length q0j, .slice q0k q2.Out.fe2.length q0l, .slice q0m q2.Out.fe3.length q0n] :: vec 3 (RpI .i64).sz (.slice q3 m0.forder.length c_m0_6) m0.forder.length q8 :: vec 4 RpB.sz (.slice q4 m0.fwires.length c_m0_7) m0.fwires.length q9 :: vec 4 RpB.sz (.slice q5 m0.ftable.length c_m0_8) m0.ftable.length q0b :: vec 4 RpB.sz (.slice q6 m0.fflop.length c_m0_9) m0.fflop.length q0a :: ro ρ :: l)) ?_ ?_
      · skip -- c42u3
        refine x_cond_p (0 < q2.In.fe1) rfl (fun hc42u3 => ?_) (fun hc42u3 => ?_)
        · replace hFc42u3 := it_t hc42u3 hFc42u3
          replace hFc42u3 := ar_s hFc42u3; obtain ⟨x49u3, hx49u3, hFc42u3⟩ := hFc42u3
          replace hFc42u3 := ck_s hFc42u3; obtain ⟨q3w, hFc42u3⟩ := hFc42u3
          replace hFc42u3 := ar_s hFc42u3; obtain ⟨x55u3, hx55u3, hFc42u3⟩ := hFc42u3
          replace hFc42u3 := ar_s hFc42u3; obtain ⟨x57u3, hx57u3, hFc42u3⟩ := hFc42u3
          replace hFc42u3 := ck_s hFc42u3; obtain ⟨q3x, hFc42u3⟩ := hFc42u3
          replace hFc42u3 := lv_s hFc42u3; obtain ⟨x63u3, hx63u3, hFc42u3⟩ := hFc42u3
          replace hFc42u3 := bd_s hFc42u3; obtain ⟨q1x, q3y, hFc42u3⟩ := hFc42u3
          refine x_still mixed (by kernel_rfl) hS <| q (yl_move q0p) <| q (yl_move q1h) <| q (yl_move q0y) <|
            q (yl_move rfl) <| q (ysub rfl rfl hx49u3) <| q (yl_move q0p) <| q (yl_nilCheck rfl) <|
            q (yl_field0 fld_257_0 rfl) <| q (yl_field0 fld_81_2 rfl) <| qa (fun w' hS => at_load one_3 rfl (hS.cell rfl)) <| q (yquo rfl rfl q3w hx55u3) <|
            q (yl_move rfl) <| q (ysub rfl rfl hx57u3) <| q (yl_move q0p) <| q (yl_nilCheck rfl) <|
            q (yl_field0 fld_257_0 rfl) <| q (yl_field0 fld_81_2 rfl) <| qa (fun w' hS => at_load one_3 rfl (hS.cell rfl)) <| q (yrem rfl rfl q3x hx63u3) <|
            qcc (v := .bool q1x) call_145 (args5 rfl rfl rfl rfl rfl) (fun w' hS => by
              have hcall := c_array_machine_value q3y q0w q1k q1l q1m q1n q0x q0o q1o ((((((hS.pull 6).pull 6).pull 6).pull 6).pull 6).pull 5)
              exact (Calls.mono hcall (fun e w'' h => And.intro h.1 (((((((h.2.pull 5).pull 5).pull 5).pull 5).pull 5).pull 6).pull 6)))) <| q (v := .bool q1x) (yl_assign rfl) <|
            q_done fun w' hS => ?_
          exact x_inv ⟨q1x, (Option.some.inj (show some _ = some _ from hFc42u3)), q0p, q1h, q0y, q1q, q1r, rfl, rfl, q13, rfl, (((((((hS.pull 6).pull 6).pull 6).pull 6).pull 6).pull 6).pull 6)⟩
        · replace hFc42u3 := it_f hc42u3 hFc42u3
          refine x_skip <|
            ?_
          exact x_inv ⟨false, (Option.some.inj (show some _ = some _ from hFc42u3)), q0p, q1h, q0y, q1q, q1r, rfl, rfl, q13, rfl, (((((((hS.pull 6).pull 6).pull 6).pull 6).pull 6).pull 6).pull 6)⟩
      rintro E w ⟨q15, rfl, q3z, q40, q41, q42, q43, q44, q36, q37, q38, hS⟩
      exact x_inv ⟨q15, (Option.some.inj (show some _ = some _ from hFc25u3)), q3z, q40, q41, q42, q43, q44, q36, q37, q38, (((((((hS.pull 6).pull 6).pull 6).pull 6).pull 6).pull 6).pull 6)⟩
  rintro E w ⟨q14, rfl, q2g, q2h, q2i, q2j, q2k, q45, q39, q22, q23, hS⟩
  refine x_blk <| x_seq <| x_region <| p (yl_move q39) <|
    x_done <|
    ?_
  replace hF := bd_s hF; obtain ⟨oc65u3, hFc65u3, hF⟩ := hF
  refine x_join (fun E w => ∃ (q0t : Int), q0t = oc65u3 ∧ E 0 = .pointer (some ⟨q7, 0, none⟩) ∧ E 1 = .slice q0f q0v.length c_in_1 ∧ E 2 = .int .i64 tile2 ∧ E 6 = .pointer (some ⟨b6, 0, none⟩) ∧ E 7 = .int .i64 q0t ∧ E 20 = .agg #[.int .i64 q2.In.fe0, .int .i64 q2.In.fe1, .int .i64 q2.In.fe2, .int .i64 q2.In.fe3] ∧ E 21 = .int .i64 1 ∧ St w0 w (cells q7 257 [.int .i64 m0.fc.Rows, .int .i64 m0.fc.Cols, .int .i64 m0.fc.Tracks, .slice q0c m0.fc.Tiles.length c_m0_3, .slice q0d m0.fc.In.length c_m0_4, .slice q0e m0.fc.Out.length c_m0_5, .slice q3 m0.forder.length c_m0_6, .slice q4 m0.fwires.length c_m0_7, .slice q5 m0.ftable.length c_m0_8, .slice q6 m0.fflop.length c_m0_9] :: cells b6 183 [.int .u16 q2.Table, .bool q2.Init, .int .i64 q2.In.fe0, .int .i64 q2.In.fe1, .int .i64 q2.In.fe2, .int .i64 q2.In.fe3, .slice q0g q2.Out.fe0.length q0h, .slice q0i q2.Out.fe1.length q0j, .slice q0k q2.Out.fe2.length q0l, .slice q0m q2.Out.fe3.length q0n] :: vec 3 (RpI .i64).sz (.slice q3 m0.forder.length c_m0_6) m0.forder.length q8 :: vec 4 RpB.sz (.slice q4 m0.fwires.length c_m0_7) m0.fwires.length q9 :: vec 4 RpB.sz (.slice q5 m0.ftable.length c_m0_8) m0.ftable.length q0b :: vec 4 RpB.sz (.slice q6 m0.fflop.length c_m0_9) m0.fflop.length q0a :: ro ρ :: l)) ?_ ?_
  · skip -- c65u3
    refine x_cond (t := q14) rfl (fun hc65u3 => ?_) (fun hc65u3 => ?_)
    · replace hFc65u3 := it_t hc65u3 hFc65u3
      replace hFc65u3 := ck_s hFc65u3; obtain ⟨q46, hFc65u3⟩ := hFc65u3
      replace hFc65u3 := lv_s hFc65u3; obtain ⟨x68u3, hx68u3, hFc65u3⟩ := hFc65u3
      replace hFc65u3 := lv_s hFc65u3; obtain ⟨x69u3, hx69u3, hFc65u3⟩ := hFc65u3
      refine x_region <| p (yl_move q2k) <| p (yl_move q45) <| p (yshl rfl rfl q46 hx68u3) <|
        p (yor rfl rfl hx69u3) <| p (yl_assign rfl) <| x_done <|
        ?_
      exact x_inv ⟨x69u3, (Option.some.inj (show some _ = some _ from hFc65u3)), q2g, q2h, q2i, q2j, rfl, q22, q23, (((((((hS.pull 6).pull 6).pull 6).pull 6).pull 6).pull 6).pull 6)⟩
    · replace hFc65u3 := it_bf hc65u3 hFc65u3
      refine x_skip <|
        ?_
      exact x_inv ⟨q0s, (Option.some.inj (show some _ = some _ from hFc65u3)), q2g, q2h, q2i, q2j, q2k, q22, q23, (((((((hS.pull 6).pull 6).pull 6).pull 6).pull 6).pull 6).pull 6)⟩
  rintro E w ⟨q0t, rfl, q0q, q1i, q0z, q1s, q1t, q16, q3a, hS⟩
  replace hF := ar_s hF; obtain ⟨x32u2, hx32u2, hF⟩ := hF
  replace hF := ar_s hF; obtain ⟨x33u2, hx33u2, hF⟩ := hF
  refine x_blk <| x_region <| p (yadd (c := 2) q3a rfl ⟨rfl, by decide⟩) <| p (yl_move rfl) <|
    x_done <| x_un 2 <| x_seq <| x_region <|
    p (ylss_l (t := true) rfl rfl (by decide)) <| x_done <| x_seq <| x_cond_t (show ev _ _ = .bool true from rfl) <|
    x_skip <| x_seq <| x_block <| x_seq <|
    x_region <| p (yl_move rfl) <| p (yl_ixv (x := .tmp 20) (y := .tmp 21) (v := .int .i64 q2.In.fe2) arr_180 one_3 q16 rfl (by decide) rfl) <| p (yl_assign rfl) <|
    p (yl_assign rfl) <| x_done <| x_seq <| x_region <|
    p (yl_assign rfl) <| x_done <| x_seq <| x_block <|
    x_seq <| x_region <| p (yl_move rfl) <| p (yl_move q0q) <|
    p (yl_nilCheck rfl) <| p (yl_field0 fld_257_0 rfl) <| p (yl_field0 fld_81_2 rfl) <| pa (at_load one_3 rfl (hS.cell rfl)) <|
    p (ymul rfl rfl hx32u2) <| p (yadd rfl rfl hx33u2) <| p (yl_eql rfl rfl) <| p (yl_assign rfl) <|
    x_done <|
    ?_
  replace hF := bd_s hF; obtain ⟨oc25u2, hFc25u2, hF⟩ := hF
  refine x_join (fun E w => ∃ (q17 : Bool), q17 = oc25u2 ∧ E 0 = .pointer (some ⟨q7, 0, none⟩) ∧ E 1 = .slice q0f q0v.length c_in_1 ∧ E 2 = .int .i64 tile2 ∧ E 6 = .pointer (some ⟨b6, 0, none⟩) ∧ E 7 = .int .i64 q0t ∧ E 8 = .int .i64 2 ∧ E 10 = .bool q17 ∧ E 20 = .agg #[.int .i64 q2.In.fe0, .int .i64 q2.In.fe1, .int .i64 q2.In.fe2, .int .i64 q2.In.fe3] ∧ E 21 = .int .i64 2 ∧ St w0 w (cells q7 257 [.int .i64 m0.fc.Rows, .int .i64 m0.fc.Cols, .int .i64 m0.fc.Tracks, .slice q0c m0.fc.Tiles.length c_m0_3, .slice q0d m0.fc.In.length c_m0_4, .slice q0e m0.fc.Out.length c_m0_5, .slice q3 m0.forder.length c_m0_6, .slice q4 m0.fwires.length c_m0_7, .slice q5 m0.ftable.length c_m0_8, .slice q6 m0.fflop.length c_m0_9] :: cells b6 183 [.int .u16 q2.Table, .bool q2.Init, .int .i64 q2.In.fe0, .int .i64 q2.In.fe1, .int .i64 q2.In.fe2, .int .i64 q2.In.fe3, .slice q0g q2.Out.fe0.length q0h, .slice q0i q2.Out.fe1.length q0j, .slice q0k q2.Out.fe2.length q0l, .slice q0m q2.Out.fe3.length q0n] :: vec 3 (RpI .i64).sz (.slice q3 m0.forder.length c_m0_6) m0.forder.length q8 :: vec 4 RpB.sz (.slice q4 m0.fwires.length c_m0_7) m0.fwires.length q9 :: vec 4 RpB.sz (.slice q5 m0.ftable.length c_m0_8) m0.ftable.length q0b :: vec 4 RpB.sz (.slice q6 m0.fflop.length c_m0_9) m0.fflop.length q0a :: ro ρ :: l)) ?_ ?_
  · skip -- c25u2
    refine x_cond_p (q2.In.fe2 = x33u2) rfl (fun hc25u2 => ?_) (fun hc25u2 => ?_)
    · replace hFc25u2 := it_t hc25u2 hFc25u2
      replace hFc25u2 := ck_s hFc25u2; obtain ⟨q2x, hFc25u2⟩ := hFc25u2
      replace hFc25u2 := lv_s hFc25u2; obtain ⟨x41u2, hx41u2, hFc25u2⟩ := hFc25u2
      refine x_region <| p (yl_move q0q) <| p (yl_nilCheck rfl) <| p (yl_field0 fld_257_4 rfl) <|
        pa (at_load one_124 rfl (hS.cell rfl)) <| p (yl_move q0z) <| p (yix_o sl_124 rfl rfl (hS.pull 5) q0o q2x) <| pa (at_load one_4 rfl (RepL.getW q0o (hS.pull 5) q2x hx41u2)) <|
        p (yl_assign rfl) <| x_done <|
        ?_
      exact x_inv ⟨x41u2, (Option.some.inj (show some _ = some _ from hFc25u2)), q0q, q1i, q0z, q1s, q1t, rfl, rfl, q16, rfl, (((((((hS.pull 6).pull 6).pull 6).pull 6).pull 6).pull 6).pull 6)⟩
    · replace hFc25u2 := it_f hc25u2 hFc25u2
      refine x_seq <| x_region <| p (yl_move rfl) <| p (yl_gtr rfl rfl) <|
        p (yl_assign rfl) <| x_done <|
        ?_
      replace hFc25u2 := bd_s hFc25u2; obtain ⟨oc42u2, hFc42u2, hFc25u2⟩ := hFc25u2
      refine x_join (fun E w => ∃ (q18 : Bool), q18 = oc42u2 ∧ E 0 = .pointer (some ⟨q7, 0, none⟩) ∧ E 1 = .slice q0f q0v.length c_in_1 ∧ E 2 = .int .i64 tile2 ∧ E 6 = .pointer (some ⟨b6, 0, none⟩) ∧ E 7 = .int .i64 q0t ∧ E 8 = .int .i64 2 ∧ E 10 = .bool q18 ∧ E 20 = .agg #[.int .i64 q2.In.fe0, .int .i64 q2.In.fe1, .int .i64 q2.In.fe2, .int .i64 q2.In.fe3] ∧ E 21 = .int .i64 2 ∧ St w0 w (cells q7 257 [.int .i64 m0.fc.Rows, .int .i64 m0.fc.Cols, .int .i64 m0.fc.Tracks, .slice q0c m0.fc.Tiles.length c_m0_3, .slice q0d m0.fc.In.length c_m0_4, .slice q0e m0.fc.Out.length c_m0_5, .slice q3 m0.forder.length c_m0_6, .slice q4 m0.fwires.length c_m0_7, .slice q5 m0.ftable.length c_m0_8, .slice q6 m0.fflop.length c_m0_9] :: cells b6 183 [.int .u16 q2.Table, .bool q2.Init, .int .i64 q2.In.fe0, .int .i64 q2.In.fe1, .int .i64 q2.In.fe2, .int .i64 q2.In.fe3, .slice q0g q2.Out.fe0.length q0h, .slice q0i q2.Out.fe1.length q0j, .slice q0k q2.Out.fe2.length q0l, .slice q0m q2.Out.fe3.length q0n] :: vec 3 (RpI .i64).sz (.slice q3 m0.forder.length c_m0_6) m0.forder.length q8 :: vec 4 RpB.sz (.slice q4 m0.fwires.length c_m0_7) m0.fwires.length q9 :: vec 4 RpB.sz (.slice q5 m0.ftable.length c_m0_8) m0.ftable.length q0b :: vec 4 RpB.sz (.slice q6 m0.fflop.length c_m0_9) m0.fflop.length q0a :: ro ρ :: l)) ?_ ?_
      · skip -- c42u2
        refine x_cond_p (0 < q2.In.fe2) rfl (fun hc42u2 => ?_) (fun hc42u2 => ?_)
        · replace hFc42u2 := it_t hc42u2 hFc42u2
          replace hFc42u2 := ar_s hFc42u2; obtain ⟨x49u2, hx49u2, hFc42u2⟩ := hFc42u2
          replace hFc42u2 := ck_s hFc42u2; obtain ⟨q47, hFc42u2⟩ := hFc42u2
          replace hFc42u2 := ar_s hFc42u2; obtain ⟨x55u2, hx55u2, hFc42u2⟩ := hFc42u2
          replace hFc42u2 := ar_s hFc42u2; obtain ⟨x57u2, hx57u2, hFc42u2⟩ := hFc42u2
          replace hFc42u2 := ck_s hFc42u2; obtain ⟨q48, hFc42u2⟩ := hFc42u2
          replace hFc42u2 := lv_s hFc42u2; obtain ⟨x63u2, hx63u2, hFc42u2⟩ := hFc42u2
          replace hFc42u2 := bd_s hFc42u2; obtain ⟨q1y, q49, hFc42u2⟩ := hFc42u2
          refine x_still mixed (by kernel_rfl) hS <| q (yl_move q0q) <| q (yl_move q1i) <| q (yl_move q0z) <|
            q (yl_move rfl) <| q (ysub rfl rfl hx49u2) <| q (yl_move q0q) <| q (yl_nilCheck rfl) <|
            q (yl_field0 fld_257_0 rfl) <| q (yl_field0 fld_81_2 rfl) <| qa (fun w' hS => at_load one_3 rfl (hS.cell rfl)) <| q (yquo rfl rfl q47 hx55u2) <|
            q (yl_move rfl) <| q (ysub rfl rfl hx57u2) <| q (yl_move q0q) <| q (yl_nilCheck rfl) <|
            q (yl_field0 fld_257_0 rfl) <| q (yl_field0 fld_81_2 rfl) <| qa (fun w' hS => at_load one_3 rfl (hS.cell rfl)) <| q (yrem rfl rfl q48 hx63u2) <|
            qcc (v := .bool q1y) call_145 (args5 rfl rfl rfl rfl rfl) (fun w' hS => by
              have hcall := c_array_machine_value q49 q0w q1k q1l q1m q1n q0x q0o q1o ((((((hS.pull 6).pull 6).pull 6).pull 6).pull 6).pull 5)
              exact (Calls.mono hcall (fun e w'' h => And.intro h.1 (((((((h.2.pull 5).pull 5).pull 5).pull 5).pull 5).pull 6).pull 6)))) <| q (v := .bool q1y) (yl_assign rfl) <|
            q_done fun w' hS => ?_
          exact x_inv ⟨q1y, (Option.some.inj (show some _ = some _ from hFc42u2)), q0q, q1i, q0z, q1s, q1t, rfl, rfl, q16, rfl, (((((((hS.pull 6).pull 6).pull 6).pull 6).pull 6).pull 6).pull 6)⟩
        · replace hFc42u2 := it_f hc42u2 hFc42u2
          refine x_skip <|
            ?_
          exact x_inv ⟨false, (Option.some.inj (show some _ = some _ from hFc42u2)), q0q, q1i, q0z, q1s, q1t, rfl, rfl, q16, rfl, (((((((hS.pull 6).pull 6).pull 6).pull 6).pull 6).pull 6).pull 6)⟩
      rintro E w ⟨q18, rfl, q4a, q4b, q4c, q4d, q4e, q4f, q3b, q3c, q3d, hS⟩
      exact x_inv ⟨q18, (Option.some.inj (show some _ = some _ from hFc25u2)), q4a, q4b, q4c, q4d, q4e, q4f, q3b, q3c, q3d, (((((((hS.pull 6).pull 6).pull 6).pull 6).pull 6).pull 6).pull 6)⟩
  rintro E w ⟨q17, rfl, q2l, q2m, q2n, q2o, q2p, q4g, q3e, q24, q25, hS⟩
  refine x_blk <| x_seq <| x_region <| p (yl_move q3e) <|
    x_done <|
    ?_
  replace hF := bd_s hF; obtain ⟨oc65u2, hFc65u2, hF⟩ := hF
  refine x_join (fun E w => ∃ (q0u : Int), q0u = oc65u2 ∧ E 0 = .pointer (some ⟨q7, 0, none⟩) ∧ E 1 = .slice q0f q0v.length c_in_1 ∧ E 2 = .int .i64 tile2 ∧ E 6 = .pointer (some ⟨b6, 0, none⟩) ∧ E 7 = .int .i64 q0u ∧ E 20 = .agg #[.int .i64 q2.In.fe0, .int .i64 q2.In.fe1, .int .i64 q2.In.fe2, .int .i64 q2.In.fe3] ∧ E 21 = .int .i64 2 ∧ St w0 w (cells q7 257 [.int .i64 m0.fc.Rows, .int .i64 m0.fc.Cols, .int .i64 m0.fc.Tracks, .slice q0c m0.fc.Tiles.length c_m0_3, .slice q0d m0.fc.In.length c_m0_4, .slice q0e m0.fc.Out.length c_m0_5, .slice q3 m0.forder.length c_m0_6, .slice q4 m0.fwires.length c_m0_7, .slice q5 m0.ftable.length c_m0_8, .slice q6 m0.fflop.length c_m0_9] :: cells b6 183 [.int .u16 q2.Table, .bool q2.Init, .int .i64 q2.In.fe0, .int .i64 q2.In.fe1, .int .i64 q2.In.fe2, .int .i64 q2.In.fe3, .slice q0g q2.Out.fe0.length q0h, .slice q0i q2.Out.fe1.length q0j, .slice q0k q2.Out.fe2.length q0l, .slice q0m q2.Out.fe3.length q0n] :: vec 3 (RpI .i64).sz (.slice q3 m0.forder.length c_m0_6) m0.forder.length q8 :: vec 4 RpB.sz (.slice q4 m0.fwires.length c_m0_7) m0.fwires.length q9 :: vec 4 RpB.sz (.slice q5 m0.ftable.length c_m0_8) m0.ftable.length q0b :: vec 4 RpB.sz (.slice q6 m0.fflop.length c_m0_9) m0.fflop.length q0a :: ro ρ :: l)) ?_ ?_
  · skip -- c65u2
    refine x_cond (t := q17) rfl (fun hc65u2 => ?_) (fun hc65u2 => ?_)
    · replace hFc65u2 := it_t hc65u2 hFc65u2
      replace hFc65u2 := ck_s hFc65u2; obtain ⟨q4h, hFc65u2⟩ := hFc65u2
      replace hFc65u2 := lv_s hFc65u2; obtain ⟨x68u2, hx68u2, hFc65u2⟩ := hFc65u2
      replace hFc65u2 := lv_s hFc65u2; obtain ⟨x69u2, hx69u2, hFc65u2⟩ := hFc65u2
      refine x_region <| p (yl_move q2p) <| p (yl_move q4g) <| p (yshl rfl rfl q4h hx68u2) <|
        p (yor rfl rfl hx69u2) <| p (yl_assign rfl) <| x_done <|
        ?_
      exact x_inv ⟨x69u2, (Option.some.inj (show some _ = some _ from hFc65u2)), q2l, q2m, q2n, q2o, rfl, q24, q25, (((((((hS.pull 6).pull 6).pull 6).pull 6).pull 6).pull 6).pull 6)⟩
    · replace hFc65u2 := it_bf hc65u2 hFc65u2
      refine x_skip <|
        ?_
      exact x_inv ⟨q0t, (Option.some.inj (show some _ = some _ from hFc65u2)), q2l, q2m, q2n, q2o, q2p, q24, q25, (((((((hS.pull 6).pull 6).pull 6).pull 6).pull 6).pull 6).pull 6)⟩
  rintro E w ⟨q0u, rfl, q0r, q1j, q10, q1u, q1v, q19, q3f, hS⟩
  replace hF := ar_s hF; obtain ⟨x32u1, hx32u1, hF⟩ := hF
  replace hF := ar_s hF; obtain ⟨x33u1, hx33u1, hF⟩ := hF
  refine x_blk <| x_region <| p (yadd (c := 3) q3f rfl ⟨rfl, by decide⟩) <| p (yl_move rfl) <|
    x_done <| x_un 1 <| x_seq <| x_region <|
    p (ylss_l (t := true) rfl rfl (by decide)) <| x_done <| x_seq <| x_cond_t (show ev _ _ = .bool true from rfl) <|
    x_skip <| x_seq <| x_block <| x_seq <|
    x_region <| p (yl_move rfl) <| p (yl_ixv (x := .tmp 20) (y := .tmp 21) (v := .int .i64 q2.In.fe3) arr_180 one_3 q19 rfl (by decide) rfl) <| p (yl_assign rfl) <|
    p (yl_assign rfl) <| x_done <| x_seq <| x_region <|
    p (yl_assign rfl) <| x_done <| x_seq <| x_block <|
    x_seq <| x_region <| p (yl_move rfl) <| p (yl_move q0r) <|
    p (yl_nilCheck rfl) <| p (yl_field0 fld_257_0 rfl) <| p (yl_field0 fld_81_2 rfl) <| pa (at_load one_3 rfl (hS.cell rfl)) <|
    p (ymul rfl rfl hx32u1) <| p (yadd rfl rfl hx33u1) <| p (yl_eql rfl rfl) <| p (yl_assign rfl) <|
    x_done <|
    ?_
  replace hF := bd_s hF; obtain ⟨oc25u1, hFc25u1, hF⟩ := hF
  refine x_join (fun E w => ∃ (q1a : Bool), q1a = oc25u1 ∧ E 0 = .pointer (some ⟨q7, 0, none⟩) ∧ E 1 = .slice q0f q0v.length c_in_1 ∧ E 2 = .int .i64 tile2 ∧ E 6 = .pointer (some ⟨b6, 0, none⟩) ∧ E 7 = .int .i64 q0u ∧ E 8 = .int .i64 3 ∧ E 10 = .bool q1a ∧ E 20 = .agg #[.int .i64 q2.In.fe0, .int .i64 q2.In.fe1, .int .i64 q2.In.fe2, .int .i64 q2.In.fe3] ∧ E 21 = .int .i64 3 ∧ St w0 w (cells q7 257 [.int .i64 m0.fc.Rows, .int .i64 m0.fc.Cols, .int .i64 m0.fc.Tracks, .slice q0c m0.fc.Tiles.length c_m0_3, .slice q0d m0.fc.In.length c_m0_4, .slice q0e m0.fc.Out.length c_m0_5, .slice q3 m0.forder.length c_m0_6, .slice q4 m0.fwires.length c_m0_7, .slice q5 m0.ftable.length c_m0_8, .slice q6 m0.fflop.length c_m0_9] :: cells b6 183 [.int .u16 q2.Table, .bool q2.Init, .int .i64 q2.In.fe0, .int .i64 q2.In.fe1, .int .i64 q2.In.fe2, .int .i64 q2.In.fe3, .slice q0g q2.Out.fe0.length q0h, .slice q0i q2.Out.fe1.length q0j, .slice q0k q2.Out.fe2.length q0l, .slice q0m q2.Out.fe3.length q0n] :: vec 3 (RpI .i64).sz (.slice q3 m0.forder.length c_m0_6) m0.forder.length q8 :: vec 4 RpB.sz (.slice q4 m0.fwires.length c_m0_7) m0.fwires.length q9 :: vec 4 RpB.sz (.slice q5 m0.ftable.length c_m0_8) m0.ftable.length q0b :: vec 4 RpB.sz (.slice q6 m0.fflop.length c_m0_9) m0.fflop.length q0a :: ro ρ :: l)) ?_ ?_
  · skip -- c25u1
    refine x_cond_p (q2.In.fe3 = x33u1) rfl (fun hc25u1 => ?_) (fun hc25u1 => ?_)
    · replace hFc25u1 := it_t hc25u1 hFc25u1
      replace hFc25u1 := ck_s hFc25u1; obtain ⟨q2y, hFc25u1⟩ := hFc25u1
      replace hFc25u1 := lv_s hFc25u1; obtain ⟨x41u1, hx41u1, hFc25u1⟩ := hFc25u1
      refine x_region <| p (yl_move q0r) <| p (yl_nilCheck rfl) <| p (yl_field0 fld_257_4 rfl) <|
        pa (at_load one_124 rfl (hS.cell rfl)) <| p (yl_move q10) <| p (yix_o sl_124 rfl rfl (hS.pull 5) q0o q2y) <| pa (at_load one_4 rfl (RepL.getW q0o (hS.pull 5) q2y hx41u1)) <|
        p (yl_assign rfl) <| x_done <|
        ?_
      exact x_inv ⟨x41u1, (Option.some.inj (show some _ = some _ from hFc25u1)), q0r, q1j, q10, q1u, q1v, rfl, rfl, q19, rfl, (((((((hS.pull 6).pull 6).pull 6).pull 6).pull 6).pull 6).pull 6)⟩
    · replace hFc25u1 := it_f hc25u1 hFc25u1
      refine x_seq <| x_region <| p (yl_move rfl) <| p (yl_gtr rfl rfl) <|
        p (yl_assign rfl) <| x_done <|
        ?_
      replace hFc25u1 := bd_s hFc25u1; obtain ⟨oc42u1, hFc42u1, hFc25u1⟩ := hFc25u1
      refine x_join (fun E w => ∃ (q1b : Bool), q1b = oc42u1 ∧ E 0 = .pointer (some ⟨q7, 0, none⟩) ∧ E 1 = .slice q0f q0v.length c_in_1 ∧ E 2 = .int .i64 tile2 ∧ E 6 = .pointer (some ⟨b6, 0, none⟩) ∧ E 7 = .int .i64 q0u ∧ E 8 = .int .i64 3 ∧ E 10 = .bool q1b ∧ E 20 = .agg #[.int .i64 q2.In.fe0, .int .i64 q2.In.fe1, .int .i64 q2.In.fe2, .int .i64 q2.In.fe3] ∧ E 21 = .int .i64 3 ∧ St w0 w (cells q7 257 [.int .i64 m0.fc.Rows, .int .i64 m0.fc.Cols, .int .i64 m0.fc.Tracks, .slice q0c m0.fc.Tiles.length c_m0_3, .slice q0d m0.fc.In.length c_m0_4, .slice q0e m0.fc.Out.length c_m0_5, .slice q3 m0.forder.length c_m0_6, .slice q4 m0.fwires.length c_m0_7, .slice q5 m0.ftable.length c_m0_8, .slice q6 m0.fflop.length c_m0_9] :: cells b6 183 [.int .u16 q2.Table, .bool q2.Init, .int .i64 q2.In.fe0, .int .i64 q2.In.fe1, .int .i64 q2.In.fe2, .int .i64 q2.In.fe3, .slice q0g q2.Out.fe0.length q0h, .slice q0i q2.Out.fe1.length q0j, .slice q0k q2.Out.fe2.length q0l, .slice q0m q2.Out.fe3.length q0n] :: vec 3 (RpI .i64).sz (.slice q3 m0.forder.length c_m0_6) m0.forder.length q8 :: vec 4 RpB.sz (.slice q4 m0.fwires.length c_m0_7) m0.fwires.length q9 :: vec 4 RpB.sz (.slice q5 m0.ftable.length c_m0_8) m0.ftable.length q0b :: vec 4 RpB.sz (.slice q6 m0.fflop.length c_m0_9) m0.fflop.length q0a :: ro ρ :: l)) ?_ ?_
      · skip -- c42u1
        refine x_cond_p (0 < q2.In.fe3) rfl (fun hc42u1 => ?_) (fun hc42u1 => ?_)
        · replace hFc42u1 := it_t hc42u1 hFc42u1
          replace hFc42u1 := ar_s hFc42u1; obtain ⟨x49u1, hx49u1, hFc42u1⟩ := hFc42u1
          replace hFc42u1 := ck_s hFc42u1; obtain ⟨q4i, hFc42u1⟩ := hFc42u1
          replace hFc42u1 := ar_s hFc42u1; obtain ⟨x55u1, hx55u1, hFc42u1⟩ := hFc42u1
          replace hFc42u1 := ar_s hFc42u1; obtain ⟨x57u1, hx57u1, hFc42u1⟩ := hFc42u1
          replace hFc42u1 := ck_s hFc42u1; obtain ⟨q4j, hFc42u1⟩ := hFc42u1
          replace hFc42u1 := lv_s hFc42u1; obtain ⟨x63u1, hx63u1, hFc42u1⟩ := hFc42u1
          replace hFc42u1 := bd_s hFc42u1; obtain ⟨q1z, q4k, hFc42u1⟩ := hFc42u1
          refine x_still mixed (by kernel_rfl) hS <| q (yl_move q0r) <| q (yl_move q1j) <| q (yl_move q10) <|
            q (yl_move rfl) <| q (ysub rfl rfl hx49u1) <| q (yl_move q0r) <| q (yl_nilCheck rfl) <|
            q (yl_field0 fld_257_0 rfl) <| q (yl_field0 fld_81_2 rfl) <| qa (fun w' hS => at_load one_3 rfl (hS.cell rfl)) <| q (yquo rfl rfl q4i hx55u1) <|
            q (yl_move rfl) <| q (ysub rfl rfl hx57u1) <| q (yl_move q0r) <| q (yl_nilCheck rfl) <|
            q (yl_field0 fld_257_0 rfl) <| q (yl_field0 fld_81_2 rfl) <| qa (fun w' hS => at_load one_3 rfl (hS.cell rfl)) <| q (yrem rfl rfl q4j hx63u1) <|
            qcc (v := .bool q1z) call_145 (args5 rfl rfl rfl rfl rfl) (fun w' hS => by
              have hcall := c_array_machine_value q4k q0w q1k q1l q1m q1n q0x q0o q1o ((((((hS.pull 6).pull 6).pull 6).pull 6).pull 6).pull 5)
              exact (Calls.mono hcall (fun e w'' h => And.intro h.1 (((((((h.2.pull 5).pull 5).pull 5).pull 5).pull 5).pull 6).pull 6)))) <| q (v := .bool q1z) (yl_assign rfl) <|
            q_done fun w' hS => ?_
          exact x_inv ⟨q1z, (Option.some.inj (show some _ = some _ from hFc42u1)), q0r, q1j, q10, q1u, q1v, rfl, rfl, q19, rfl, (((((((hS.pull 6).pull 6).pull 6).pull 6).pull 6).pull 6).pull 6)⟩
        · replace hFc42u1 := it_f hc42u1 hFc42u1
          refine x_skip <|
            ?_
          exact x_inv ⟨false, (Option.some.inj (show some _ = some _ from hFc42u1)), q0r, q1j, q10, q1u, q1v, rfl, rfl, q19, rfl, (((((((hS.pull 6).pull 6).pull 6).pull 6).pull 6).pull 6).pull 6)⟩
      rintro E w ⟨q1b, rfl, q4l, q4m, q4n, q4o, q4p, q4q, q3g, q3h, q3i, hS⟩
      exact x_inv ⟨q1b, (Option.some.inj (show some _ = some _ from hFc25u1)), q4l, q4m, q4n, q4o, q4p, q4q, q3g, q3h, q3i, (((((((hS.pull 6).pull 6).pull 6).pull 6).pull 6).pull 6).pull 6)⟩
  rintro E w ⟨q1a, rfl, q2q, q2r, q2s, q2t, q2u, q4r, q3j, q26, q27, hS⟩
  refine x_blk <| x_seq <| x_region <| p (yl_move q3j) <|
    x_done <|
    ?_
  replace hF := bd_s hF; obtain ⟨oc65u1, hFc65u1, hF⟩ := hF
  refine x_join (fun E w => ∃ (q1p : Int), q1p = oc65u1 ∧ E 0 = .pointer (some ⟨q7, 0, none⟩) ∧ E 1 = .slice q0f q0v.length c_in_1 ∧ E 2 = .int .i64 tile2 ∧ E 6 = .pointer (some ⟨b6, 0, none⟩) ∧ E 7 = .int .i64 q1p ∧ E 20 = .agg #[.int .i64 q2.In.fe0, .int .i64 q2.In.fe1, .int .i64 q2.In.fe2, .int .i64 q2.In.fe3] ∧ E 21 = .int .i64 3 ∧ St w0 w (cells q7 257 [.int .i64 m0.fc.Rows, .int .i64 m0.fc.Cols, .int .i64 m0.fc.Tracks, .slice q0c m0.fc.Tiles.length c_m0_3, .slice q0d m0.fc.In.length c_m0_4, .slice q0e m0.fc.Out.length c_m0_5, .slice q3 m0.forder.length c_m0_6, .slice q4 m0.fwires.length c_m0_7, .slice q5 m0.ftable.length c_m0_8, .slice q6 m0.fflop.length c_m0_9] :: cells b6 183 [.int .u16 q2.Table, .bool q2.Init, .int .i64 q2.In.fe0, .int .i64 q2.In.fe1, .int .i64 q2.In.fe2, .int .i64 q2.In.fe3, .slice q0g q2.Out.fe0.length q0h, .slice q0i q2.Out.fe1.length q0j, .slice q0k q2.Out.fe2.length q0l, .slice q0m q2.Out.fe3.length q0n] :: vec 3 (RpI .i64).sz (.slice q3 m0.forder.length c_m0_6) m0.forder.length q8 :: vec 4 RpB.sz (.slice q4 m0.fwires.length c_m0_7) m0.fwires.length q9 :: vec 4 RpB.sz (.slice q5 m0.ftable.length c_m0_8) m0.ftable.length q0b :: vec 4 RpB.sz (.slice q6 m0.fflop.length c_m0_9) m0.fflop.length q0a :: ro ρ :: l)) ?_ ?_
  · skip -- c65u1
    refine x_cond (t := q1a) rfl (fun hc65u1 => ?_) (fun hc65u1 => ?_)
    · replace hFc65u1 := it_t hc65u1 hFc65u1
      replace hFc65u1 := ck_s hFc65u1; obtain ⟨q4s, hFc65u1⟩ := hFc65u1
      replace hFc65u1 := lv_s hFc65u1; obtain ⟨x68u1, hx68u1, hFc65u1⟩ := hFc65u1
      replace hFc65u1 := lv_s hFc65u1; obtain ⟨x69u1, hx69u1, hFc65u1⟩ := hFc65u1
      refine x_region <| p (yl_move q2u) <| p (yl_move q4r) <| p (yshl rfl rfl q4s hx68u1) <|
        p (yor rfl rfl hx69u1) <| p (yl_assign rfl) <| x_done <|
        ?_
      exact x_inv ⟨x69u1, (Option.some.inj (show some _ = some _ from hFc65u1)), q2q, q2r, q2s, q2t, rfl, q26, q27, (((((((hS.pull 6).pull 6).pull 6).pull 6).pull 6).pull 6).pull 6)⟩
    · replace hFc65u1 := it_bf hc65u1 hFc65u1
      refine x_skip <|
        ?_
      exact x_inv ⟨q0u, (Option.some.inj (show some _ = some _ from hFc65u1)), q2q, q2r, q2s, q2t, q2u, q26, q27, (((((((hS.pull 6).pull 6).pull 6).pull 6).pull 6).pull 6).pull 6)⟩
  rintro E w ⟨q1p, rfl, q4t, q5a, q4u, q4v, q4w, q59, q3k, hS⟩
  replace hF := ck_s hF; obtain ⟨q56, hF⟩ := hF
  replace hF := lv_s hF; obtain ⟨x79, hx79, hF⟩ := hF
  replace hF := lv_s hF; obtain ⟨x80, hx80, hF⟩ := hF
  replace hF := ck_s hF; obtain ⟨q2z, hF⟩ := hF
  refine x_blk <| x_region <| p (yadd (c := 4) q3k rfl ⟨rfl, by decide⟩) <| p (yl_move rfl) <|
    x_done <| x_un 0 <| x_seq <| x_region <|
    p (ylss_l (t := false) rfl rfl (by decide)) <| x_done <| x_seq <| x_cond_f (show ev _ _ = .bool false from rfl) <|
    x_exitTo _ rfl <| x_head 12 mixed (by kernel_rfl) hS _ _ rfl rfl <| q (yl_move q4t) <| q (yl_nilCheck rfl) <|
    q (yl_field0 fld_257_3 rfl) <| qa (fun w' hS => at_load one_124 rfl (hS.cell rfl)) <| q (yl_move q4u) <| q (yl_field0 fld_183_0 q4v) <|
    qa (fun w' hS => at_load one_179 rfl ((hS.pull 1).cell rfl)) <| q (yl_move q4w) <| q (yshr rfl rfl q56 hx79) <| q (yand rfl rfl hx80) <|
    q (yl_eql rfl rfl) <| q (yix_o sl_124 rfl rfl (hS.pull 4) q0x q2z) <|
    q_done fun w' hS => ?_
  replace hF := lv_s hF; obtain ⟨q5f, q4z, hF⟩ := hF
  refine o_put' (news := [.bool (decide (x80 = 1))]) sz_4 rfl rfl rfl rfl (o := 0) rfl q2z rfl (hS.pull 4) q0x (Le.refl _) (fun c hc => ok_all hc (show RpB.ok ρ [.bool (decide (x80 = 1))] (decide (x80 = 1)) from rfl)) q4z (fun q50 w' q51 hS => ?_)
  refine x_done <|
    ?_
  have e_ := Option.some.inj (show some _ = some _ from hF); subst e_
  exact x_fin ⟨_, rfl, q50, rfl, q51, (((((((hS.pull 2).drop.pull 5).pull 5).pull 2).pull 5).pull 5).pull 5)⟩
attribute [irreducible] P_array_machine_look

def P_array_machine_cycle_L2 (m0 : T_array_machine) (q0c : List Bool) : (Int × List Bool × List Bool) → Option ((Int × List Bool × List Bool) ⊕ (List Bool × List Bool)) := fun (q4, q2, q3) =>
  if q4 < (m0.forder.length : Int) then
    bd (
      ck (inb q4 m0.forder.length) <|
      lv (gt m0.forder q4) fun x22 =>
      if x22 < 0 then
        ar ((-1 : Int) - x22) fun x28 =>
        bd (P_array_machine_look (T_array_machine.mk m0.fc m0.forder q2 q3 m0.fflop) q0c x28) fun q0h =>
        some (q2, q0h)
      else
        ck (m0.fc.Tracks ≠ 0) <|
        ar (Int.tdiv x22 m0.fc.Tracks) fun x36 =>
        ck ((4 : Int) ≠ 0) <|
        ar (Int.tdiv x36 4) fun x37 =>
        ck (m0.fc.Tracks ≠ 0) <|
        ar (Int.tdiv x22 m0.fc.Tracks) fun x44 =>
        ck ((4 : Int) ≠ 0) <|
        lv (Int.tmod x44 4) fun x45 =>
        ck (m0.fc.Tracks ≠ 0) <|
        lv (Int.tmod x22 m0.fc.Tracks) fun x52 =>
        ck (inb x37 m0.fc.Tiles.length) <|
        ck (inb x45 4) <|
        lv (gt m0.fc.Tiles x37) fun q5 =>
        lv (sel4 x45 q5.Out.fe0 q5.Out.fe1 q5.Out.fe2 q5.Out.fe3) fun q0b =>
        ck (inb x52 q0b.length) <|
        lv (gt q0b x52) fun x66 =>
        bd (
          if x66 = 1 then
            ck (inb x37 q3.length) <|
            lv (gt q3 x37) fun x81 =>
            ck (inb x22 q2.length) <|
            lv (stt q2 x22 x81) fun q0g =>
            some q0g
          else
            bd (
              if x66 = 2 then
                ck (inb x37 m0.fflop.length) <|
                lv (gt m0.fflop x37) fun x97 =>
                ck (inb x22 q2.length) <|
                lv (stt q2 x22 x97) fun q0d =>
                some q0d
              else
                bd (
                  if 3 ≤ x66 then
                    ar (x66 - 3) fun x111 =>
                    bd (P_array_machine_value (T_array_machine.mk m0.fc m0.forder q2 q3 m0.fflop) q0c x37 x111 x52) fun q0e =>
                    ck (inb x22 q2.length) <|
                    lv (stt q2 x22 q0e) fun q0f =>
                    some q0f
                  else
                    some q2) fun q6 =>
                some q6) fun q7 =>
            some q7) fun q8 =>
        some (q8, q3)) fun (q9, q0a) =>
    ar (q4 + 1) fun x115 =>
    some (Sum.inl (x115, q9, q0a))
  else
    some (Sum.inr (q2, q3))
def P_array_machine_cycle_L17 (m0 : T_array_machine) (q3 : List Bool) : (List Bool × Int) → Option ((List Bool × Int) ⊕ List Bool) := fun (q4, q2) =>
  if q2 < (m0.fc.Out.length : Int) then
    ck (inb q2 m0.fc.Out.length) <|
    lv (gt m0.fc.Out q2) fun q5 =>
    ar (q5.Row * m0.fc.Cols) fun x143 =>
    ar (x143 + q5.Col) fun x146 =>
    bd (P_array_Config_wire (T_array_Config.mk m0.fc.Rows m0.fc.Cols m0.fc.Tracks m0.fc.Tiles m0.fc.In m0.fc.Out) x146 q5.Side q5.Track) fun q6 =>
    ck (inb q6 q3.length) <|
    lv (gt q3 q6) fun x153 =>
    lv (q4 ++ [x153]) fun q7 =>
    ck (apOk 1 q7.length) <|
    ar (q2 + 1) fun x156 =>
    some (Sum.inl (q7, x156))
  else
    some (Sum.inr q4)
def P_array_machine_cycle (m0 : T_array_machine) (q6 : List Bool) : Option (List Bool × List Bool × List Bool × List Bool) :=
  bd (
    lp (P_array_machine_cycle_L2 m0 q6) fuel (0, m0.fwires, m0.ftable)) fun (q2, q3) =>
  bd (
    lp (P_array_machine_cycle_L17 m0 q2) fuel (([] : List Bool), 0)) fun q4 =>
  lv (copyL m0.fflop q3) fun q5 =>
  some (q4, q2, q3, q5)
set_option maxHeartbeats 4000000 in
set_option maxRecDepth 100000 in
theorem c_array_machine_cycle {w0 w : World} {l : List Assn} {ρ : Heap} {q3 : Nat} {q0c : Option Addr} {q34 : Nat} {c_m0_3 : Nat} {q0d : Option Addr} {q35 : Nat} {c_m0_4 : Nat} {q0a : Option Addr} {q36 : Nat} {c_m0_5 : Nat} {q5 : Option Addr} {q1f : Nat} {c_m0_6 : Nat} {q0k : List Value} {q4 : Option Addr} {q1g : Nat} {c_m0_7 : Nat} {q2v : List Value} {q6 : Option Addr} {q1h : Nat} {c_m0_8 : Nat} {q2w : List Value} {q7 : Option Addr} {q1i : Nat} {c_m0_9 : Nat} {q0n : List Value} {q19 : Option Addr} {q3n : Nat} {c_in_1 : Nat} {m0 : T_array_machine} {q2b : List Bool} {r : (List Bool × List Bool × List Bool × List Bool)} (hF : P_array_machine_cycle m0 q2b = some r) (q1j : RdS R_array_Tile ρ q0c q34 c_m0_3 m0.fc.Tiles) (q2t : RdS R_array_Pad ρ q0d q35 c_m0_4 m0.fc.In) (q1k : RdS R_array_Pad ρ q0a q36 c_m0_5 m0.fc.Out) (q2c : RepL (RpI .i64) ρ m0.forder q0k) (q3o : RepL RpB ρ m0.fwires q2v) (q3p : RepL RpB ρ m0.ftable q2w) (q1l : RepL RpB ρ m0.fflop q0n) (q37 : RdS RpB ρ q19 q3n c_in_1 q2b) (hS : St w0 w (cells q3 257 [.int .i64 m0.fc.Rows, .int .i64 m0.fc.Cols, .int .i64 m0.fc.Tracks, .slice q0c q34 c_m0_3, .slice q0d q35 c_m0_4, .slice q0a q36 c_m0_5, .slice q5 q1f c_m0_6, .slice q4 q1g c_m0_7, .slice q6 q1h c_m0_8, .slice q7 q1i c_m0_9] :: vec 3 (RpI .i64).sz (.slice q5 q1f c_m0_6) q1f q0k :: vec 4 RpB.sz (.slice q4 q1g c_m0_7) q1g q2v :: vec 4 RpB.sz (.slice q6 q1h c_m0_8) q1h q2w :: vec 4 RpB.sz (.slice q7 q1i c_m0_9) q1i q0n :: ro ρ :: l)) :
    Calls Try.prog 118 #[.pointer (some ⟨q3, 0, none⟩), .slice q19 q3n c_in_1] w fun e w' => ∃ (q38 : Option Addr) (q2s : Nat) (c_y0_ret : Nat) (q2x : List Value) (q1m : List Value) (q1n : List Value) (q1o : List Value), e = .returned (.slice q38 q2s c_y0_ret) ∧ RepL RpB ρ r.1 q2x ∧ RepL RpB ρ r.2.1 q1m ∧ RepL RpB ρ r.2.2.1 q1n ∧ RepL RpB ρ r.2.2.2 q1o ∧ St w0 w' (vec 4 RpB.sz (.slice q38 q2s c_y0_ret) q2s q2x :: cells q3 257 [.int .i64 m0.fc.Rows, .int .i64 m0.fc.Cols, .int .i64 m0.fc.Tracks, .slice q0c q34 c_m0_3, .slice q0d q35 c_m0_4, .slice q0a q36 c_m0_5, .slice q5 q1f c_m0_6, .slice q4 q1g c_m0_7, .slice q6 q1h c_m0_8, .slice q7 q1i c_m0_9] :: vec 3 (RpI .i64).sz (.slice q5 q1f c_m0_6) q1f q0k :: vec 4 RpB.sz (.slice q4 q1g c_m0_7) q1g q1m :: vec 4 RpB.sz (.slice q6 q1h c_m0_8) q1h q1n :: vec 4 RpB.sz (.slice q7 q1i c_m0_9) q1i q1o :: ro ρ :: l) := by
  have e_ := q1j.n; subst e_
  have e_ := q2t.n; subst e_
  have e_ := q1k.n; subst e_
  have e_ := St.vec_n (hS.pull 1) q2c; subst e_
  have e_ := St.vec_n (hS.pull 2) q3o; subst e_
  have e_ := St.vec_n (hS.pull 3) q3p; subst e_
  have e_ := St.vec_n (hS.pull 4) q1l; subst e_
  have e_ := q37.n; subst e_
  refine enterC Try.func118 rfl 167 rfl (by simp) ?_
  refine x_seq <| x_region <| p (yl_assign rfl) <| x_done <|
    x_seq <| x_seq <| x_region <| p (yl_move rfl) <|
    p (yl_nilCheck rfl) <| p (yl_field0 fld_257_1 rfl) <| pa (at_load one_22 rfl (hS.cell rfl)) <| p (yl_len_slice usl_22 rfl) <|
    p (yl_move rfl) <| x_done <|
    ?_
  replace hF := bd_s hF; obtain ⟨oL2, hLL2, hF⟩ := hF
  refine x_join (fun E w => ∃ (q9 : List Value) (q0h : List Value) (q14 : List Bool) (q2a : List Bool), (q14, q2a) = oL2 ∧ E 0 = .pointer (some ⟨q3, 0, none⟩) ∧ RepL RpB ρ q14 q9 ∧ RepL RpB ρ q2a q0h ∧ St w0 w (cells q3 257 [.int .i64 m0.fc.Rows, .int .i64 m0.fc.Cols, .int .i64 m0.fc.Tracks, .slice q0c m0.fc.Tiles.length c_m0_3, .slice q0d m0.fc.In.length c_m0_4, .slice q0a m0.fc.Out.length c_m0_5, .slice q5 m0.forder.length c_m0_6, .slice q4 m0.fwires.length c_m0_7, .slice q6 m0.ftable.length c_m0_8, .slice q7 m0.fflop.length c_m0_9] :: vec 3 (RpI .i64).sz (.slice q5 m0.forder.length c_m0_6) m0.forder.length q0k :: vec 4 RpB.sz (.slice q4 m0.fwires.length c_m0_7) m0.fwires.length q9 :: vec 4 RpB.sz (.slice q6 m0.ftable.length c_m0_8) m0.ftable.length q0h :: vec 4 RpB.sz (.slice q7 m0.fflop.length c_m0_9) m0.fflop.length q0n :: ro ρ :: l)) ?_ ?_
  · skip -- L2
    refine x_block ?_
    refine x_loop (fun k_ E w => ∃ (q0j : List Value) (q0e : List Value) (q0v : Int) (q0o : List Bool) (q0s : List Bool), lp (P_array_machine_cycle_L2 m0 q2b) k_ (q0v, q0o, q0s) = some oL2 ∧ E 0 = .pointer (some ⟨q3, 0, none⟩) ∧ E 1 = .slice q19 q2b.length c_in_1 ∧ E 17 = .slice q5 m0.forder.length c_m0_6 ∧ E 18 = .int .i64 (m0.forder.length : Int) ∧ E 19 = .int .i64 q0v ∧ RepL RpB ρ q0o q0j ∧ RepL RpB ρ q0s q0e ∧ St w0 w (cells q3 257 [.int .i64 m0.fc.Rows, .int .i64 m0.fc.Cols, .int .i64 m0.fc.Tracks, .slice q0c m0.fc.Tiles.length c_m0_3, .slice q0d m0.fc.In.length c_m0_4, .slice q0a m0.fc.Out.length c_m0_5, .slice q5 m0.forder.length c_m0_6, .slice q4 m0.fwires.length c_m0_7, .slice q6 m0.ftable.length c_m0_8, .slice q7 m0.fflop.length c_m0_9] :: vec 3 (RpI .i64).sz (.slice q5 m0.forder.length c_m0_6) m0.forder.length q0k :: vec 4 RpB.sz (.slice q4 m0.fwires.length c_m0_7) m0.fwires.length q0j :: vec 4 RpB.sz (.slice q6 m0.ftable.length c_m0_8) m0.ftable.length q0e :: vec 4 RpB.sz (.slice q7 m0.fflop.length c_m0_9) m0.fflop.length q0n :: ro ρ :: l)) fuel ⟨q2v, q2w, 0, m0.fwires, m0.ftable, hLL2, rfl, rfl, rfl, rfl, rfl, q3o, q3p, ((((((hS.pull 5).pull 5).pull 5).pull 5).pull 5).pull 5)⟩ ?_
    rintro kL2 E w ⟨q0j, q0e, q0v, q0o, q0s, hLL2, q0g, q1a, q17, q18, q0y, q8, q0l, hS⟩
    replace hLL2 := lp_s hLL2; obtain ⟨kL2, obL2, rfl, hFL2, hLL2⟩ := hLL2
    refine x_seq <| x_region <| p (yl_lss q0y q18) <| x_done <|
      x_seq <|
      x_cond_p (q0v < (m0.forder.length : Int)) rfl (fun hc20 => ?_) (fun hc20 => ?_)
    · replace hFL2 := it_t hc20 hFL2
      refine x_skip <| x_seq <|
        ?_
      replace hFL2 := bd_s hFL2; obtain ⟨ob1, hFb1, hFL2⟩ := hFL2
      refine x_join (fun E w => ∃ (q0t : List Value) (q0u : List Value) (q15 : List Bool) (q16 : List Bool), (q15, q16) = ob1 ∧ E 0 = .pointer (some ⟨q3, 0, none⟩) ∧ E 1 = .slice q19 q2b.length c_in_1 ∧ E 17 = .slice q5 m0.forder.length c_m0_6 ∧ E 18 = .int .i64 (m0.forder.length : Int) ∧ E 19 = .int .i64 q0v ∧ RepL RpB ρ q15 q0t ∧ RepL RpB ρ q16 q0u ∧ St w0 w (cells q3 257 [.int .i64 m0.fc.Rows, .int .i64 m0.fc.Cols, .int .i64 m0.fc.Tracks, .slice q0c m0.fc.Tiles.length c_m0_3, .slice q0d m0.fc.In.length c_m0_4, .slice q0a m0.fc.Out.length c_m0_5, .slice q5 m0.forder.length c_m0_6, .slice q4 m0.fwires.length c_m0_7, .slice q6 m0.ftable.length c_m0_8, .slice q7 m0.fflop.length c_m0_9] :: vec 3 (RpI .i64).sz (.slice q5 m0.forder.length c_m0_6) m0.forder.length q0k :: vec 4 RpB.sz (.slice q4 m0.fwires.length c_m0_7) m0.fwires.length q0t :: vec 4 RpB.sz (.slice q6 m0.ftable.length c_m0_8) m0.ftable.length q0u :: vec 4 RpB.sz (.slice q7 m0.fflop.length c_m0_9) m0.fflop.length q0n :: ro ρ :: l)) ?_ ?_
      · skip -- b1
        replace hFb1 := ck_s hFb1; obtain ⟨q3x, hFb1⟩ := hFb1
        replace hFb1 := lv_s hFb1; obtain ⟨x22, hx22, hFb1⟩ := hFb1
        refine x_block <| x_seq <| x_region <| p (yix_o sl_22 q17 q0y (hS.pull 1) q2c q3x) <|
          pa (at_load one_3 rfl (RepL.getW q2c (hS.pull 1) q3x hx22)) <| p (yl_assign rfl) <| x_done <| x_seq <|
          x_seq <| x_region <| p (yl_move rfl) <| p (yl_lss rfl rfl) <|
          x_done <|
          x_cond_p (x22 < 0) rfl (fun hc24 => ?_) (fun hc24 => ?_)
        · replace hFb1 := it_t hc24 hFb1
          replace hFb1 := ar_s hFb1; obtain ⟨x28, hx28, hFb1⟩ := hFb1
          replace hFb1 := bd_s hFb1; obtain ⟨q5g, q5a, hFb1⟩ := hFb1
          refine x_seq <| x_region <| p (yl_move q0g) <| p (yl_move q1a) <|
            p (yl_move rfl) <| p (ysub rfl rfl hx28) <|
            ?_
          have hcall := c_array_machine_look q5a q1j q2t q1k q2c q8 q0l q1l q37 ((((((hS.pull 5).pull 5).pull 5).pull 5).pull 5).pull 5)
          refine o_cc call_144 (args3 rfl rfl rfl) hcall ?_
          rintro e w' ⟨q2d, rfl, q2q, hS⟩
          refine ⟨_, rfl, ?_⟩
          refine x_done <| x_exitTo _ rfl <|
            ?_
          exact x_inv ⟨q0j, q2d, q0o, q5g, (Option.some.inj (show some _ = some _ from hFb1)), q0g, q1a, q17, q18, q0y, q8, q2q, ((((((hS.pull 5).pull 5).pull 5).pull 5).pull 5).pull 5)⟩
        · replace hFb1 := it_f hc24 hFb1
          replace hFb1 := ck_s hFb1; obtain ⟨q5b, hFb1⟩ := hFb1
          replace hFb1 := ar_s hFb1; obtain ⟨x36, hx36, hFb1⟩ := hFb1
          replace hFb1 := ck_s hFb1; obtain ⟨q5c, hFb1⟩ := hFb1
          replace hFb1 := ar_s hFb1; obtain ⟨x37, hx37, hFb1⟩ := hFb1
          replace hFb1 := ck_s hFb1; obtain ⟨q4k, hFb1⟩ := hFb1
          replace hFb1 := ar_s hFb1; obtain ⟨x44, hx44, hFb1⟩ := hFb1
          replace hFb1 := ck_s hFb1; obtain ⟨q4l, hFb1⟩ := hFb1
          replace hFb1 := lv_s hFb1; obtain ⟨x45, hx45, hFb1⟩ := hFb1
          replace hFb1 := ck_s hFb1; obtain ⟨q4m, hFb1⟩ := hFb1
          replace hFb1 := lv_s hFb1; obtain ⟨x52, hx52, hFb1⟩ := hFb1
          refine x_skip <| x_seq <| x_still mixed (by kernel_rfl) hS <| q (yl_move rfl) <|
            q (yl_move q0g) <| q (yl_nilCheck rfl) <| q (yl_field0 fld_257_0 rfl) <| q (yl_field0 fld_81_2 rfl) <|
            qa (fun w' hS => at_load one_3 rfl (hS.cell rfl)) <| q (yquo rfl rfl q5b hx36) <| q (yquo rfl rfl q5c hx37) <| q (yl_move rfl) <|
            q (yl_move q0g) <| q (yl_nilCheck rfl) <| q (yl_field0 fld_257_0 rfl) <| q (yl_field0 fld_81_2 rfl) <|
            qa (fun w' hS => at_load one_3 rfl (hS.cell rfl)) <| q (yquo rfl rfl q4k hx44) <| q (yrem rfl rfl q4l hx45) <| q (yl_move rfl) <|
            q (yl_move q0g) <| q (yl_nilCheck rfl) <| q (yl_field0 fld_257_0 rfl) <| q (yl_field0 fld_81_2 rfl) <|
            qa (fun w' hS => at_load one_3 rfl (hS.cell rfl)) <| q (yrem rfl rfl q4m hx52) <| q (yl_assign rfl) <| q (yl_assign rfl) <|
            q (yl_assign rfl) <|
            q_done fun w' hS => ?_
          replace hFb1 := ck_s hFb1; obtain ⟨q3y, hFb1⟩ := hFb1
          replace hFb1 := ck_s hFb1; obtain ⟨q3l, hFb1⟩ := hFb1
          replace hFb1 := lv_s hFb1; obtain ⟨q5v, q4n, hFb1⟩ := hFb1
          have q_ := q1j.get q3y; obtain ⟨q5t, q3q, q4o⟩ := q_
          rw [← q4n] at q3q
          obtain ⟨q5h, q5i, q5j, q5k, q5l, q5m, q5n, q5o, q5p, q5q, q5r, q5s, rfl, q3d, q3e, q3f, q3g⟩ := q3q
          have e_ := q3d.n; subst e_
          have e_ := q3e.n; subst e_
          have e_ := q3f.n; subst e_
          have e_ := q3g.n; subst e_
          replace hFb1 := lv_s hFb1; obtain ⟨q5w, q4p, hFb1⟩ := hFb1
          have q_ := sel4_sl q3l q3d q3e q3f q3g; obtain ⟨q5x, q5y, q5z, q4q, q33⟩ := q_
          rw [← q4p] at q33
          have e_ := q33.n; subst e_
          replace hFb1 := ck_s hFb1; obtain ⟨q3r, hFb1⟩ := hFb1
          replace hFb1 := lv_s hFb1; obtain ⟨x66, hx66, hFb1⟩ := hFb1
          refine x_seq <| x_region <| p (yl_move q0g) <| p (yl_nilCheck rfl) <|
            p (yl_field0 fld_257_0 rfl) <| p (yl_field0 fld_81_3 rfl) <| pa (at_load one_78 rfl (hS.cell rfl)) <| p (yl_move rfl) <|
            p (yl_move rfl) <| p (yix_f sl_78 rfl rfl q1j q3y) <| p (yl_fieldAddr fld_183_3 rfl) <| p (yl_ixE arr_181 rfl rfl q3l rfl) <|
            pa (at_load one_22 rfl (Elt.ld (j := 6 + x45.toNat * 1) q4o (hS.pull 5) ((sel4_get q3l rfl rfl rfl rfl).trans (congrArg some q4q)))) <| p (yl_move rfl) <| p (yix_f sl_22 rfl rfl q33 q3r) <| pa (at_load one_3 rfl (RdS.getW q33 (hS.pull 5) q3r hx66)) <|
            p (yl_assign rfl) <| x_done <| x_block <| x_seq <|
            x_region <| p (yl_move rfl) <| p (yl_eql rfl rfl) <| p (yl_assign rfl) <|
            x_done <|
            ?_
          replace hFb1 := bd_s hFb1; obtain ⟨oc67, hFc67, hFb1⟩ := hFb1
          refine x_join (fun E w => ∃ (q0p : List Value) (q0z : List Bool), q0z = oc67 ∧ E 0 = .pointer (some ⟨q3, 0, none⟩) ∧ E 1 = .slice q19 q2b.length c_in_1 ∧ E 17 = .slice q5 m0.forder.length c_m0_6 ∧ E 18 = .int .i64 (m0.forder.length : Int) ∧ E 19 = .int .i64 q0v ∧ RepL RpB ρ q0z q0p ∧ St w0 w (cells q3 257 [.int .i64 m0.fc.Rows, .int .i64 m0.fc.Cols, .int .i64 m0.fc.Tracks, .slice q0c m0.fc.Tiles.length c_m0_3, .slice q0d m0.fc.In.length c_m0_4, .slice q0a m0.fc.Out.length c_m0_5, .slice q5 m0.forder.length c_m0_6, .slice q4 m0.fwires.length c_m0_7, .slice q6 m0.ftable.length c_m0_8, .slice q7 m0.fflop.length c_m0_9] :: vec 3 (RpI .i64).sz (.slice q5 m0.forder.length c_m0_6) m0.forder.length q0k :: vec 4 RpB.sz (.slice q4 m0.fwires.length c_m0_7) m0.fwires.length q0p :: vec 4 RpB.sz (.slice q6 m0.ftable.length c_m0_8) m0.ftable.length q0e :: vec 4 RpB.sz (.slice q7 m0.fflop.length c_m0_9) m0.fflop.length q0n :: ro ρ :: l)) ?_ ?_
          · skip -- c67
            refine x_cond_p (x66 = 1) rfl (fun hc67 => ?_) (fun hc67 => ?_)
            · replace hFc67 := it_t hc67 hFc67
              replace hFc67 := ck_s hFc67; obtain ⟨q3s, hFc67⟩ := hFc67
              replace hFc67 := lv_s hFc67; obtain ⟨x81, hx81, hFc67⟩ := hFc67
              replace hFc67 := ck_s hFc67; obtain ⟨q3t, hFc67⟩ := hFc67
              refine x_head 13 mixed (by kernel_rfl) hS _ _ rfl rfl <| q (yl_move q0g) <| q (yl_nilCheck rfl) <| q (yl_field0 fld_257_2 rfl) <|
                qa (fun w' hS => at_load one_124 rfl (hS.cell rfl)) <| q (yl_move rfl) <| q (yl_move q0g) <| q (yl_nilCheck rfl) <|
                q (yl_field0 fld_257_3 rfl) <| qa (fun w' hS => at_load one_124 rfl (hS.cell rfl)) <| q (yl_move rfl) <| q (yix_o sl_124 rfl rfl (hS.pull 3) q0l q3s) <|
                qa (fun w' hS => at_load one_4 rfl (RepL.getW q0l (hS.pull 3) q3s hx81)) <| q (yix_o sl_124 rfl rfl (hS.pull 2) q8 q3t) <|
                q_done fun w' hS => ?_
              replace hFc67 := lv_s hFc67; obtain ⟨q5d, q4r, hFc67⟩ := hFc67
              refine o_put' (news := [.bool x81]) sz_4 rfl rfl rfl rfl (o := 0) rfl q3t rfl (hS.pull 2) q8 (Le.refl _) (fun c hc => ok_all hc (show RpB.ok ρ [.bool x81] x81 from rfl)) q4r (fun q4s w' q4t hS => ?_)
              refine x_done <|
                ?_
              exact x_inv ⟨q4s, q5d, (Option.some.inj (show some _ = some _ from hFc67)), q0g, q1a, q17, q18, q0y, q4t, ((((((hS.pull 5).pull 5).pull 5).pull 3).pull 5).pull 5)⟩
            · replace hFc67 := it_f hc67 hFc67
              refine x_seq <| x_region <| p (yl_move rfl) <| p (yl_eql rfl rfl) <|
                p (yl_assign rfl) <| x_done <|
                ?_
              replace hFc67 := bd_s hFc67; obtain ⟨oc83, hFc83, hFc67⟩ := hFc67
              refine x_join (fun E w => ∃ (q0q : List Value) (q10 : List Bool), q10 = oc83 ∧ E 0 = .pointer (some ⟨q3, 0, none⟩) ∧ E 1 = .slice q19 q2b.length c_in_1 ∧ E 17 = .slice q5 m0.forder.length c_m0_6 ∧ E 18 = .int .i64 (m0.forder.length : Int) ∧ E 19 = .int .i64 q0v ∧ RepL RpB ρ q10 q0q ∧ St w0 w (cells q3 257 [.int .i64 m0.fc.Rows, .int .i64 m0.fc.Cols, .int .i64 m0.fc.Tracks, .slice q0c m0.fc.Tiles.length c_m0_3, .slice q0d m0.fc.In.length c_m0_4, .slice q0a m0.fc.Out.length c_m0_5, .slice q5 m0.forder.length c_m0_6, .slice q4 m0.fwires.length c_m0_7, .slice q6 m0.ftable.length c_m0_8, .slice q7 m0.fflop.length c_m0_9] :: vec 3 (RpI .i64).sz (.slice q5 m0.forder.length c_m0_6) m0.forder.length q0k :: vec 4 RpB.sz (.slice q4 m0.fwires.length c_m0_7) m0.fwires.length q0q :: vec 4 RpB.sz (.slice q6 m0.ftable.length c_m0_8) m0.ftable.length q0e :: vec 4 RpB.sz (.slice q7 m0.fflop.length c_m0_9) m0.fflop.length q0n :: ro ρ :: l)) ?_ ?_
              · skip -- c83
                refine x_cond_p (x66 = 2) rfl (fun hc83 => ?_) (fun hc83 => ?_)
                · replace hFc83 := it_t hc83 hFc83
                  replace hFc83 := ck_s hFc83; obtain ⟨q3h, hFc83⟩ := hFc83
                  replace hFc83 := lv_s hFc83; obtain ⟨x97, hx97, hFc83⟩ := hFc83
                  replace hFc83 := ck_s hFc83; obtain ⟨q3i, hFc83⟩ := hFc83
                  refine x_head 13 mixed (by kernel_rfl) hS _ _ rfl rfl <| q (yl_move q0g) <| q (yl_nilCheck rfl) <| q (yl_field0 fld_257_2 rfl) <|
                    qa (fun w' hS => at_load one_124 rfl (hS.cell rfl)) <| q (yl_move rfl) <| q (yl_move q0g) <| q (yl_nilCheck rfl) <|
                    q (yl_field0 fld_257_4 rfl) <| qa (fun w' hS => at_load one_124 rfl (hS.cell rfl)) <| q (yl_move rfl) <| q (yix_o sl_124 rfl rfl (hS.pull 4) q1l q3h) <|
                    qa (fun w' hS => at_load one_4 rfl (RepL.getW q1l (hS.pull 4) q3h hx97)) <| q (yix_o sl_124 rfl rfl (hS.pull 2) q8 q3i) <|
                    q_done fun w' hS => ?_
                  replace hFc83 := lv_s hFc83; obtain ⟨q4u, q40, hFc83⟩ := hFc83
                  refine o_put' (news := [.bool x97]) sz_4 rfl rfl rfl rfl (o := 0) rfl q3i rfl (hS.pull 2) q8 (Le.refl _) (fun c hc => ok_all hc (show RpB.ok ρ [.bool x97] x97 from rfl)) q40 (fun q41 w' q42 hS => ?_)
                  refine x_done <|
                    ?_
                  exact x_inv ⟨q41, q4u, (Option.some.inj (show some _ = some _ from hFc83)), q0g, q1a, q17, q18, q0y, q42, ((((((hS.pull 5).pull 5).pull 5).pull 3).pull 5).pull 5)⟩
                · replace hFc83 := it_f hc83 hFc83
                  refine x_seq <| x_region <| p (yl_move rfl) <| p (yl_geq rfl rfl) <|
                    p (yl_assign rfl) <| x_done <|
                    ?_
                  replace hFc83 := bd_s hFc83; obtain ⟨oc99, hFc99, hFc83⟩ := hFc83
                  refine x_join (fun E w => ∃ (q0r : List Value) (q11 : List Bool), q11 = oc99 ∧ E 0 = .pointer (some ⟨q3, 0, none⟩) ∧ E 1 = .slice q19 q2b.length c_in_1 ∧ E 17 = .slice q5 m0.forder.length c_m0_6 ∧ E 18 = .int .i64 (m0.forder.length : Int) ∧ E 19 = .int .i64 q0v ∧ RepL RpB ρ q11 q0r ∧ St w0 w (cells q3 257 [.int .i64 m0.fc.Rows, .int .i64 m0.fc.Cols, .int .i64 m0.fc.Tracks, .slice q0c m0.fc.Tiles.length c_m0_3, .slice q0d m0.fc.In.length c_m0_4, .slice q0a m0.fc.Out.length c_m0_5, .slice q5 m0.forder.length c_m0_6, .slice q4 m0.fwires.length c_m0_7, .slice q6 m0.ftable.length c_m0_8, .slice q7 m0.fflop.length c_m0_9] :: vec 3 (RpI .i64).sz (.slice q5 m0.forder.length c_m0_6) m0.forder.length q0k :: vec 4 RpB.sz (.slice q4 m0.fwires.length c_m0_7) m0.fwires.length q0r :: vec 4 RpB.sz (.slice q6 m0.ftable.length c_m0_8) m0.ftable.length q0e :: vec 4 RpB.sz (.slice q7 m0.fflop.length c_m0_9) m0.fflop.length q0n :: ro ρ :: l)) ?_ ?_
                  · skip -- c99
                    refine x_cond_p (3 ≤ x66) rfl (fun hc99 => ?_) (fun hc99 => ?_)
                    · replace hFc99 := it_t hc99 hFc99
                      replace hFc99 := ar_s hFc99; obtain ⟨x111, hx111, hFc99⟩ := hFc99
                      replace hFc99 := bd_s hFc99; obtain ⟨q2u, q43, hFc99⟩ := hFc99
                      replace hFc99 := ck_s hFc99; obtain ⟨q3j, hFc99⟩ := hFc99
                      refine x_head 13 mixed (by kernel_rfl) hS _ _ rfl rfl <| q (yl_move q0g) <| q (yl_nilCheck rfl) <| q (yl_field0 fld_257_2 rfl) <|
                        qa (fun w' hS => at_load one_124 rfl (hS.cell rfl)) <| q (yl_move rfl) <| q (yl_move q0g) <| q (yl_move q1a) <|
                        q (yl_move rfl) <| q (yl_move rfl) <| q (ysub rfl rfl hx111) <| q (yl_move rfl) <|
                        qcc (v := .bool q2u) call_145 (args5 rfl rfl rfl rfl rfl) (fun w' hS => by
                          have hcall := c_array_machine_value q43 q1j q2t q1k q2c q8 q0l q1l q37 hS
                          exact hcall) <| q (yix_o sl_124 rfl rfl (hS.pull 2) q8 q3j) <|
                        q_done fun w' hS => ?_
                      replace hFc99 := lv_s hFc99; obtain ⟨q4v, q44, hFc99⟩ := hFc99
                      refine o_put' (news := [.bool q2u]) sz_4 rfl rfl rfl rfl (o := 0) rfl q3j rfl (hS.pull 2) q8 (Le.refl _) (fun c hc => ok_all hc (show RpB.ok ρ [.bool q2u] q2u from rfl)) q44 (fun q45 w' q46 hS => ?_)
                      refine x_done <|
                        ?_
                      exact x_inv ⟨q45, q4v, (Option.some.inj (show some _ = some _ from hFc99)), q0g, q1a, q17, q18, q0y, q46, ((((((hS.pull 5).pull 5).pull 5).pull 3).pull 5).pull 5)⟩
                    · replace hFc99 := it_f hc99 hFc99
                      refine x_skip <|
                        ?_
                      exact x_inv ⟨q0j, q0o, (Option.some.inj (show some _ = some _ from hFc99)), q0g, q1a, q17, q18, q0y, q8, ((((((hS.pull 5).pull 5).pull 5).pull 5).pull 5).pull 5)⟩
                  rintro E w ⟨q0r, q11, rfl, q4w, q4x, q47, q48, q49, q30, hS⟩
                  exact x_inv ⟨q0r, q11, (Option.some.inj (show some _ = some _ from hFc83)), q4w, q4x, q47, q48, q49, q30, ((((((hS.pull 5).pull 5).pull 5).pull 5).pull 5).pull 5)⟩
              rintro E w ⟨q0q, q10, rfl, q4y, q4z, q4a, q4b, q4c, q31, hS⟩
              exact x_inv ⟨q0q, q10, (Option.some.inj (show some _ = some _ from hFc67)), q4y, q4z, q4a, q4b, q4c, q31, ((((((hS.pull 5).pull 5).pull 5).pull 5).pull 5).pull 5)⟩
          rintro E w ⟨q0p, q0z, rfl, q50, q51, q4d, q4e, q4f, q32, hS⟩
          refine x_blk <| x_blk <|
            ?_
          exact x_inv ⟨q0p, q0e, q0z, q0s, (Option.some.inj (show some _ = some _ from hFb1)), q50, q51, q4d, q4e, q4f, q32, q0l, ((((((hS.pull 5).pull 5).pull 5).pull 5).pull 5).pull 5)⟩
      rintro E w ⟨q0t, q0u, q15, q16, rfl, q5e, q5f, q52, q53, q54, q39, q3a, hS⟩
      replace hFL2 := ar_s hFL2; obtain ⟨x115, hx115, hFL2⟩ := hFL2
      refine x_region <| p (yadd q54 rfl hx115) <| p (yl_move rfl) <| x_done <|
        ?_
      have e_ := Option.some.inj (show some _ = some _ from hFL2); subst e_
      exact x_inv ⟨kL2, Nat.lt_succ_self _, q0t, q0u, x115, q15, q16, hLL2, q5e, q5f, q52, q53, rfl, q39, q3a, ((((((hS.pull 5).pull 5).pull 5).pull 5).pull 5).pull 5)⟩
    · replace hFL2 := it_f hc20 hFL2
      refine x_exitTo _ rfl <|
        ?_
      have e_ := Option.some.inj (show some _ = some _ from hFL2); subst e_
      exact x_inv ⟨q0j, q0e, q0o, q0s, hLL2, q0g, q8, q0l, ((((((hS.pull 5).pull 5).pull 5).pull 5).pull 5).pull 5)⟩
  rintro E w ⟨q9, q0h, q14, q2a, rfl, q3z, q1b, q2e, hS⟩
  refine x_seq <| x_region <|
    ?_
  refine o_buildSlice (vs := []) (cs := []) sl_124 zero_4 (parts_eq pt0) rfl (by intro v hv; cases hv) (by decide) rfl hS (fun b116 w' hS => ?_)
  refine p (yl_assign rfl) <| x_done <| x_seq <| x_seq <|
    x_region <| p (yl_move q3z) <| p (yl_nilCheck rfl) <| p (yl_field0 fld_257_0 rfl) <|
    p (yl_field0 fld_81_5 rfl) <| pa (at_load one_79 rfl ((hS.pull 1).cell rfl)) <| p (yl_len_slice usl_79 rfl) <| p (yl_move rfl) <|
    x_done <|
    ?_
  replace hF := bd_s hF; obtain ⟨oL17, hLL17, hF⟩ := hF
  refine x_join (fun E w => ∃ (q12 : Option Addr) (q13 : Nat) (c_out11_L17 : Nat) (q0w : List Value) (q1d : List Bool), q1d = oL17 ∧ E 0 = .pointer (some ⟨q3, 0, none⟩) ∧ E 11 = .slice q12 q13 c_out11_L17 ∧ RepL RpB ρ q1d q0w ∧ St w0 w (cells q3 257 [.int .i64 m0.fc.Rows, .int .i64 m0.fc.Cols, .int .i64 m0.fc.Tracks, .slice q0c m0.fc.Tiles.length c_m0_3, .slice q0d m0.fc.In.length c_m0_4, .slice q0a m0.fc.Out.length c_m0_5, .slice q5 m0.forder.length c_m0_6, .slice q4 m0.fwires.length c_m0_7, .slice q6 m0.ftable.length c_m0_8, .slice q7 m0.fflop.length c_m0_9] :: vec 4 RpB.sz (.slice q12 q13 c_out11_L17) q13 q0w :: vec 3 (RpI .i64).sz (.slice q5 m0.forder.length c_m0_6) m0.forder.length q0k :: vec 4 RpB.sz (.slice q4 m0.fwires.length c_m0_7) m0.fwires.length q9 :: vec 4 RpB.sz (.slice q6 m0.ftable.length c_m0_8) m0.ftable.length q0h :: vec 4 RpB.sz (.slice q7 m0.fflop.length c_m0_9) m0.fflop.length q0n :: ro ρ :: l)) ?_ ?_
  · skip -- L17
    refine x_block ?_
    have q3m : RepL RpB ρ ([] : List Bool) [] := RepL.nil
    replace hS := St.vec_of (n := 0) (sz := RpB.sz) hS rfl (by decide)
    refine x_loop (fun k_ E w => ∃ (q0f : Option Addr) (q0x : Nat) (c_out11_L17h : Nat) (q0m : List Value) (q0b : List Bool) (q1e : Int), lp (P_array_machine_cycle_L17 m0 q14) k_ (q0b, q1e) = some oL17 ∧ E 0 = .pointer (some ⟨q3, 0, none⟩) ∧ E 11 = .slice q0f q0x c_out11_L17h ∧ E 121 = .slice q0a m0.fc.Out.length c_m0_5 ∧ E 122 = .int .i64 (m0.fc.Out.length : Int) ∧ E 123 = .int .i64 q1e ∧ RepL RpB ρ q0b q0m ∧ St w0 w (cells q3 257 [.int .i64 m0.fc.Rows, .int .i64 m0.fc.Cols, .int .i64 m0.fc.Tracks, .slice q0c m0.fc.Tiles.length c_m0_3, .slice q0d m0.fc.In.length c_m0_4, .slice q0a m0.fc.Out.length c_m0_5, .slice q5 m0.forder.length c_m0_6, .slice q4 m0.fwires.length c_m0_7, .slice q6 m0.ftable.length c_m0_8, .slice q7 m0.fflop.length c_m0_9] :: vec 4 RpB.sz (.slice q0f q0x c_out11_L17h) q0x q0m :: vec 3 (RpI .i64).sz (.slice q5 m0.forder.length c_m0_6) m0.forder.length q0k :: vec 4 RpB.sz (.slice q4 m0.fwires.length c_m0_7) m0.fwires.length q9 :: vec 4 RpB.sz (.slice q6 m0.ftable.length c_m0_8) m0.ftable.length q0h :: vec 4 RpB.sz (.slice q7 m0.fflop.length c_m0_9) m0.fflop.length q0n :: ro ρ :: l)) fuel ⟨(some ⟨b116, 0, none⟩), 0, 0, [], ([] : List Bool), 0, hLL17, q3z, rfl, rfl, rfl, rfl, q3m, (((((((hS.pull 6).pull 6).pull 6).pull 6).pull 6).pull 5).pull 6)⟩ ?_
    rintro kL17 E w ⟨q0f, q0x, c_out11_L17h, q0m, q0b, q1e, hLL17, q1p, q3b, q2y, q2z, q2f, q1c, hS⟩
    have e_ := St.vec_n (hS.pull 1) q1c; subst e_
    replace hLL17 := lp_s hLL17; obtain ⟨kL17, obL17, rfl, hFL17, hLL17⟩ := hLL17
    refine x_seq <| x_region <| p (yl_lss q2f q2z) <| x_done <|
      x_seq <|
      x_cond_p (q1e < (m0.fc.Out.length : Int)) rfl (fun hc124 => ?_) (fun hc124 => ?_)
    · replace hFL17 := it_t hc124 hFL17
      replace hFL17 := ck_s hFL17; obtain ⟨q3u, hFL17⟩ := hFL17
      replace hFL17 := lv_s hFL17; obtain ⟨q2, q55, hFL17⟩ := hFL17
      have q_ := q1k.get q3u; obtain ⟨q5u, q3v, q56⟩ := q_
      rw [← q55] at q3v
      have e_ := q3v; subst e_
      refine x_skip <| x_seq <| x_block <| x_seq <|
        x_region <| p (yix_f sl_79 q2y q2f q1k q3u) <| pa (v := .agg #[.int .i64 q2.Row, .int .i64 q2.Col, .int .i64 q2.Side, .int .i64 q2.Track]) (at_loadAgg agg_187 rfl rfl (Elt.every q56 (hS.pull 6))) <|
        ?_
      refine o_alloc zero_187 hS (fun b13 w' hS => ?_)
      refine o_storeAgg (news := [.int .i64 q2.Row, .int .i64 q2.Col, .int .i64 q2.Side, .int .i64 q2.Track]) agg_187 rfl rfl rfl (by simp [over_length]) hS (fun w' hS => ?_)
      refine x_done <|
        ?_
      replace hFL17 := ar_s hFL17; obtain ⟨x143, hx143, hFL17⟩ := hFL17
      replace hFL17 := ar_s hFL17; obtain ⟨x146, hx146, hFL17⟩ := hFL17
      replace hFL17 := bd_s hFL17; obtain ⟨q1q, q4g, hFL17⟩ := hFL17
      replace hFL17 := ck_s hFL17; obtain ⟨q3k, hFL17⟩ := hFL17
      replace hFL17 := lv_s hFL17; obtain ⟨x153, hx153, hFL17⟩ := hFL17
      replace hFL17 := lv_s hFL17; obtain ⟨q0i, q4h, hFL17⟩ := hFL17
      replace hFL17 := ck_s hFL17; obtain ⟨q4i, hFL17⟩ := hFL17
      refine x_par (w0 := w0) [⟨[], [], [127], [], [], []⟩, ⟨[], [], [128], [], [], []⟩, ⟨[1], [1], [129], [], [], []⟩, ⟨[1, 2], [2], [130], [], [], []⟩, ⟨[1, 2, 3], [3], [131], [0], [], []⟩, ⟨[], [], [132], [], [], []⟩, ⟨[5], [5], [133], [], [], []⟩, ⟨[5, 6], [6], [134], [], [], []⟩, ⟨[5, 6, 7], [7], [135], [0], [], []⟩, ⟨[], [], [136], [], [], []⟩, ⟨[9], [9], [137], [1], [], []⟩, ⟨[], [], [138], [], [], []⟩, ⟨[11], [11], [139], [], [], []⟩, ⟨[11, 12], [12], [140], [], [], []⟩, ⟨[11, 12, 13], [13], [141], [], [], []⟩, ⟨[11, 12, 13, 14], [14], [142], [0], [], []⟩, ⟨[9, 10, 11, 12, 13, 14, 15], [10, 15], [143], [], [], []⟩, ⟨[], [], [144], [], [], []⟩, ⟨[17], [17], [145], [1], [], []⟩, ⟨[9, 10, 11, 12, 13, 14, 15, 16, 17, 18], [16, 18], [146], [], [], []⟩, ⟨[], [], [147], [], [], []⟩, ⟨[20], [20], [148], [1], [], []⟩, ⟨[], [], [149], [], [], []⟩, ⟨[22], [22], [150], [1], [], []⟩, ⟨[5, 6, 7, 8, 9, 10, 11, 12, 13, 14, 15, 16, 17, 18, 19, 20, 21, 22, 23], [8, 19, 21, 23], [151], [2], [], []⟩, ⟨[1, 2, 3, 4, 5, 6, 7, 8, 9, 10, 11, 12, 13, 14, 15, 16, 17, 18, 19, 20, 21, 22, 23, 24], [4, 24], [152], [3], [], []⟩, ⟨[1, 2, 3, 4, 5, 6, 7, 8, 9, 10, 11, 12, 13, 14, 15, 16, 17, 18, 19, 20, 21, 22, 23, 24, 25], [25], [153], [3], [], []⟩, ⟨[1, 2, 3, 4, 5, 6, 7, 8, 9, 10, 11, 12, 13, 14, 15, 16, 17, 18, 19, 20, 21, 22, 23, 24, 25, 26], [26], [154], [], [], [4]⟩, ⟨[0, 1, 2, 3, 4, 5, 6, 7, 8, 9, 10, 11, 12, 13, 14, 15, 16, 17, 18, 19, 20, 21, 22, 23, 24, 25, 26, 27], [0, 27], [155], [4, 2], [5], [6]⟩, ⟨[0, 1, 2, 3, 4, 5, 6, 7, 8, 9, 10, 11, 12, 13, 14, 15, 16, 17, 18, 19, 20, 21, 22, 23, 24, 25, 26, 27, 28], [28], [11, 155], [], [], []⟩] [⟨none, none, []⟩, ⟨none, none, []⟩, ⟨none, none, []⟩, ⟨none, none, []⟩, ⟨(some 27), none, [154]⟩, ⟨none, (some 28), []⟩, ⟨(some 28), none, [155]⟩] [11, 127, 128, 129, 130, 131, 132, 133, 134, 135, 136, 137, 138, 139, 140, 141, 142, 143, 144, 145, 146, 147, 148, 149, 150, 151, 152, 153, 154, 155] [0, 1, 2, 3, 5] [0, 1, 2, 3, 4, 6] [0, 1, 2, 3, 4, 5, 6, 7, 8, 9, 10, 11, 12, 13, 14, 15, 16, 17, 18, 19, 20, 21, 22, 23, 24, 25, 26, 27, 28, 29] [fun Ep19 => Ep19 127 = .slice q0f q0b.length c_out11_L17h, fun Ep19 => Ep19 128 = .pointer (some ⟨q3, 0, none⟩), fun Ep19 => Ep19 129 = .pointer (some ⟨q3, 0, none⟩), fun Ep19 => Ep19 130 = .pointer (some ⟨q3, 7, none⟩), fun Ep19 => Ep19 131 = .slice q4 m0.fwires.length c_m0_7, fun Ep19 => Ep19 132 = .pointer (some ⟨q3, 0, none⟩), fun Ep19 => Ep19 133 = .pointer (some ⟨q3, 0, none⟩), fun Ep19 => Ep19 134 = .pointer (some ⟨q3, 0, none⟩), fun Ep19 => Ep19 135 = .agg #[.int .i64 m0.fc.Rows, .int .i64 m0.fc.Cols, .int .i64 m0.fc.Tracks, .slice q0c m0.fc.Tiles.length c_m0_3, .slice q0d m0.fc.In.length c_m0_4, .slice q0a m0.fc.Out.length c_m0_5], fun Ep19 => Ep19 136 = .pointer (some ⟨b13, 0, none⟩), fun Ep19 => Ep19 137 = .int .i64 q2.Row, fun Ep19 => Ep19 138 = .pointer (some ⟨q3, 0, none⟩), fun Ep19 => Ep19 139 = .pointer (some ⟨q3, 0, none⟩), fun Ep19 => Ep19 140 = .pointer (some ⟨q3, 0, none⟩), fun Ep19 => Ep19 141 = .pointer (some ⟨q3, 1, none⟩), fun Ep19 => Ep19 142 = .int .i64 m0.fc.Cols, fun Ep19 => Ep19 143 = .int .i64 x143, fun Ep19 => Ep19 144 = .pointer (some ⟨b13, 1, none⟩), fun Ep19 => Ep19 145 = .int .i64 q2.Col, fun Ep19 => Ep19 146 = .int .i64 x146, fun Ep19 => Ep19 147 = .pointer (some ⟨b13, 2, none⟩), fun Ep19 => Ep19 148 = .int .i64 q2.Side, fun Ep19 => Ep19 149 = .pointer (some ⟨b13, 3, none⟩), fun Ep19 => Ep19 150 = .int .i64 q2.Track, fun Ep19 => Ep19 151 = .int .i64 q1q, fun Ep19 => Ep19 152 = .pointer (some ((adr q4).add (q1q.toNat * RpB.sz))), fun Ep19 => Ep19 153 = .bool x153, fun Ep19 => Ep19 154 = .slice (some ⟨(blkOf (Ep19 154)), 0, none⟩) 1 1, fun Ep19 => Ep19 155 = .slice (adOf (Ep19 155)) q0i.length (capOf (Ep19 155)), fun Ep19 => Ep19 11 = .slice (adOf (Ep19 155)) q0i.length (capOf (Ep19 155))] [fun Ep19 => cells q3 257 [.int .i64 m0.fc.Rows, .int .i64 m0.fc.Cols, .int .i64 m0.fc.Tracks, .slice q0c m0.fc.Tiles.length c_m0_3, .slice q0d m0.fc.In.length c_m0_4, .slice q0a m0.fc.Out.length c_m0_5, .slice q5 m0.forder.length c_m0_6, .slice q4 m0.fwires.length c_m0_7, .slice q6 m0.ftable.length c_m0_8, .slice q7 m0.fflop.length c_m0_9], fun Ep19 => cells b13 187 [.int .i64 q2.Row, .int .i64 q2.Col, .int .i64 q2.Side, .int .i64 q2.Track], fun Ep19 => ro ρ, fun Ep19 => vec 4 RpB.sz (.slice q4 m0.fwires.length c_m0_7) m0.fwires.length q9, fun Ep19 => cells (blkOf (Ep19 154)) 4 [.bool x153], fun Ep19 => vec 4 RpB.sz (.slice q0f q0b.length c_out11_L17h) q0b.length q0m, fun Ep19 => bunA (fun (cs155 : List Value) => RepL RpB ρ q0i cs155) (fun (cs155 : List Value) => [vec 4 RpB.sz (.slice (adOf (Ep19 155)) q0i.length (capOf (Ep19 155))) q0i.length cs155])] mixed (by kernel_rfl) (((((hS.pull 2).pull 4).pull 7).pull 3).pull 4) ?_ ?_
      · refine ⟨?_, ?_, ?_, ?_, ?_, ?_, ?_, ?_, ?_, ?_, ?_, ?_, ?_, ?_, ?_, ?_, ?_, ?_, ?_, ?_, ?_, ?_, ?_, ?_, ?_, ?_, ?_, ?_, ?_, ?_, trivial⟩
        · intro Ep19 w l' hE19 hO19 hF_ hS
          refine p (yl_move ((hO19 11 rfl).trans q3b)) <| x_done <|
            ?_
          refine x_fin ⟨⟨_, rfl⟩, rfl, ?_⟩
          exact Eq.mp (by kernel_rfl) hS
        · intro Ep19 w l' hE19 hO19 hF_ hS
          refine p (yl_move ((hE19 0 rfl).trans q1p)) <| x_done <|
            ?_
          refine x_fin ⟨⟨_, rfl⟩, rfl, ?_⟩
          exact Eq.mp (by kernel_rfl) hS
        · intro Ep19 w l' hE19 hO19 hF_ hS
          obtain ⟨q2g, -⟩ := hF_
          replace q2g : Ep19 128 = .pointer (some ⟨q3, 0, none⟩) := Eq.mp (by kernel_rfl) q2g
          refine p (yl_nilCheck q2g) <| x_done <|
            ?_
          refine x_fin ⟨⟨_, rfl⟩, rfl, ?_⟩
          exact Eq.mp (by kernel_rfl) hS
        · intro Ep19 w l' hE19 hO19 hF_ hS
          obtain ⟨q2h, -⟩ := hF_
          replace q2h : Ep19 129 = .pointer (some ⟨q3, 0, none⟩) := Eq.mp (by kernel_rfl) q2h
          refine p (yl_field0 fld_257_2 q2h) <| x_done <|
            ?_
          refine x_fin ⟨⟨_, rfl⟩, rfl, ?_⟩
          exact Eq.mp (by kernel_rfl) hS
        · intro Ep19 w l' hE19 hO19 hF_ hS
          obtain ⟨q2i, -⟩ := hF_
          replace q2i : Ep19 130 = .pointer (some ⟨q3, 7, none⟩) := Eq.mp (by kernel_rfl) q2i
          replace hS : St w0 w (cells q3 257 [.int .i64 m0.fc.Rows, .int .i64 m0.fc.Cols, .int .i64 m0.fc.Tracks, .slice q0c m0.fc.Tiles.length c_m0_3, .slice q0d m0.fc.In.length c_m0_4, .slice q0a m0.fc.Out.length c_m0_5, .slice q5 m0.forder.length c_m0_6, .slice q4 m0.fwires.length c_m0_7, .slice q6 m0.ftable.length c_m0_8, .slice q7 m0.fflop.length c_m0_9] :: l') := Eq.mp (by kernel_rfl) hS
          refine pa (at_load one_124 q2i (hS.cell rfl)) <| x_done <|
            ?_
          refine x_fin ⟨⟨_, rfl⟩, rfl, ?_⟩
          exact Eq.mp (by kernel_rfl) hS
        · intro Ep19 w l' hE19 hO19 hF_ hS
          refine p (yl_move ((hE19 0 rfl).trans q1p)) <| x_done <|
            ?_
          refine x_fin ⟨⟨_, rfl⟩, rfl, ?_⟩
          exact Eq.mp (by kernel_rfl) hS
        · intro Ep19 w l' hE19 hO19 hF_ hS
          obtain ⟨q2j, -⟩ := hF_
          replace q2j : Ep19 132 = .pointer (some ⟨q3, 0, none⟩) := Eq.mp (by kernel_rfl) q2j
          refine p (yl_nilCheck q2j) <| x_done <|
            ?_
          refine x_fin ⟨⟨_, rfl⟩, rfl, ?_⟩
          exact Eq.mp (by kernel_rfl) hS
        · intro Ep19 w l' hE19 hO19 hF_ hS
          obtain ⟨q2k, -⟩ := hF_
          replace q2k : Ep19 133 = .pointer (some ⟨q3, 0, none⟩) := Eq.mp (by kernel_rfl) q2k
          refine p (yl_field0 fld_257_0 q2k) <| x_done <|
            ?_
          refine x_fin ⟨⟨_, rfl⟩, rfl, ?_⟩
          exact Eq.mp (by kernel_rfl) hS
        · intro Ep19 w l' hE19 hO19 hF_ hS
          obtain ⟨q2l, -⟩ := hF_
          replace q2l : Ep19 134 = .pointer (some ⟨q3, 0, none⟩) := Eq.mp (by kernel_rfl) q2l
          replace hS : St w0 w (cells q3 257 [.int .i64 m0.fc.Rows, .int .i64 m0.fc.Cols, .int .i64 m0.fc.Tracks, .slice q0c m0.fc.Tiles.length c_m0_3, .slice q0d m0.fc.In.length c_m0_4, .slice q0a m0.fc.Out.length c_m0_5, .slice q5 m0.forder.length c_m0_6, .slice q4 m0.fwires.length c_m0_7, .slice q6 m0.ftable.length c_m0_8, .slice q7 m0.fflop.length c_m0_9] :: l') := Eq.mp (by kernel_rfl) hS
          refine pa (v := .agg #[.int .i64 m0.fc.Rows, .int .i64 m0.fc.Cols, .int .i64 m0.fc.Tracks, .slice q0c m0.fc.Tiles.length c_m0_3, .slice q0d m0.fc.In.length c_m0_4, .slice q0a m0.fc.Out.length c_m0_5]) (ld_sub agg_81 q2l rfl rfl hS) <| x_done <|
            ?_
          refine x_fin ⟨⟨_, rfl⟩, rfl, ?_⟩
          exact Eq.mp (by kernel_rfl) hS
        · intro Ep19 w l' hE19 hO19 hF_ hS
          refine p (yl_field0 fld_187_0 (hE19 13 rfl)) <| x_done <|
            ?_
          refine x_fin ⟨⟨_, rfl⟩, rfl, ?_⟩
          exact Eq.mp (by kernel_rfl) hS
        · intro Ep19 w l' hE19 hO19 hF_ hS
          obtain ⟨q2m, -⟩ := hF_
          replace q2m : Ep19 136 = .pointer (some ⟨b13, 0, none⟩) := Eq.mp (by kernel_rfl) q2m
          replace hS : St w0 w (cells b13 187 [.int .i64 q2.Row, .int .i64 q2.Col, .int .i64 q2.Side, .int .i64 q2.Track] :: l') := Eq.mp (by kernel_rfl) hS
          refine pa (at_load one_3 q2m (hS.cell rfl)) <| x_done <|
            ?_
          refine x_fin ⟨⟨_, rfl⟩, rfl, ?_⟩
          exact Eq.mp (by kernel_rfl) hS
        · intro Ep19 w l' hE19 hO19 hF_ hS
          refine p (yl_move ((hE19 0 rfl).trans q1p)) <| x_done <|
            ?_
          refine x_fin ⟨⟨_, rfl⟩, rfl, ?_⟩
          exact Eq.mp (by kernel_rfl) hS
        · intro Ep19 w l' hE19 hO19 hF_ hS
          obtain ⟨q1r, -⟩ := hF_
          replace q1r : Ep19 138 = .pointer (some ⟨q3, 0, none⟩) := Eq.mp (by kernel_rfl) q1r
          refine p (yl_nilCheck q1r) <| x_done <|
            ?_
          refine x_fin ⟨⟨_, rfl⟩, rfl, ?_⟩
          exact Eq.mp (by kernel_rfl) hS
        · intro Ep19 w l' hE19 hO19 hF_ hS
          obtain ⟨q1s, -⟩ := hF_
          replace q1s : Ep19 139 = .pointer (some ⟨q3, 0, none⟩) := Eq.mp (by kernel_rfl) q1s
          refine p (yl_field0 fld_257_0 q1s) <| x_done <|
            ?_
          refine x_fin ⟨⟨_, rfl⟩, rfl, ?_⟩
          exact Eq.mp (by kernel_rfl) hS
        · intro Ep19 w l' hE19 hO19 hF_ hS
          obtain ⟨q1t, -⟩ := hF_
          replace q1t : Ep19 140 = .pointer (some ⟨q3, 0, none⟩) := Eq.mp (by kernel_rfl) q1t
          refine p (yl_field0 fld_81_1 q1t) <| x_done <|
            ?_
          refine x_fin ⟨⟨_, rfl⟩, rfl, ?_⟩
          exact Eq.mp (by kernel_rfl) hS
        · intro Ep19 w l' hE19 hO19 hF_ hS
          obtain ⟨q1u, -⟩ := hF_
          replace q1u : Ep19 141 = .pointer (some ⟨q3, 1, none⟩) := Eq.mp (by kernel_rfl) q1u
          replace hS : St w0 w (cells q3 257 [.int .i64 m0.fc.Rows, .int .i64 m0.fc.Cols, .int .i64 m0.fc.Tracks, .slice q0c m0.fc.Tiles.length c_m0_3, .slice q0d m0.fc.In.length c_m0_4, .slice q0a m0.fc.Out.length c_m0_5, .slice q5 m0.forder.length c_m0_6, .slice q4 m0.fwires.length c_m0_7, .slice q6 m0.ftable.length c_m0_8, .slice q7 m0.fflop.length c_m0_9] :: l') := Eq.mp (by kernel_rfl) hS
          refine pa (at_load one_3 q1u (hS.cell rfl)) <| x_done <|
            ?_
          refine x_fin ⟨⟨_, rfl⟩, rfl, ?_⟩
          exact Eq.mp (by kernel_rfl) hS
        · intro Ep19 w l' hE19 hO19 hF_ hS
          obtain ⟨q1v, q1w, -⟩ := hF_
          replace q1v : Ep19 137 = .int .i64 q2.Row := Eq.mp (by kernel_rfl) q1v
          replace q1w : Ep19 142 = .int .i64 m0.fc.Cols := Eq.mp (by kernel_rfl) q1w
          refine p (ymul q1v q1w hx143) <| x_done <|
            ?_
          refine x_fin ⟨⟨_, rfl⟩, rfl, ?_⟩
          exact Eq.mp (by kernel_rfl) hS
        · intro Ep19 w l' hE19 hO19 hF_ hS
          refine p (yl_field0 fld_187_1 (hE19 13 rfl)) <| x_done <|
            ?_
          refine x_fin ⟨⟨_, rfl⟩, rfl, ?_⟩
          exact Eq.mp (by kernel_rfl) hS
        · intro Ep19 w l' hE19 hO19 hF_ hS
          obtain ⟨q1x, -⟩ := hF_
          replace q1x : Ep19 144 = .pointer (some ⟨b13, 1, none⟩) := Eq.mp (by kernel_rfl) q1x
          replace hS : St w0 w (cells b13 187 [.int .i64 q2.Row, .int .i64 q2.Col, .int .i64 q2.Side, .int .i64 q2.Track] :: l') := Eq.mp (by kernel_rfl) hS
          refine pa (at_load one_3 q1x (hS.cell rfl)) <| x_done <|
            ?_
          refine x_fin ⟨⟨_, rfl⟩, rfl, ?_⟩
          exact Eq.mp (by kernel_rfl) hS
        · intro Ep19 w l' hE19 hO19 hF_ hS
          obtain ⟨q1y, q1z, -⟩ := hF_
          replace q1y : Ep19 143 = .int .i64 x143 := Eq.mp (by kernel_rfl) q1y
          replace q1z : Ep19 145 = .int .i64 q2.Col := Eq.mp (by kernel_rfl) q1z
          refine p (yadd q1y q1z hx146) <| x_done <|
            ?_
          refine x_fin ⟨⟨_, rfl⟩, rfl, ?_⟩
          exact Eq.mp (by kernel_rfl) hS
        · intro Ep19 w l' hE19 hO19 hF_ hS
          refine p (yl_field0 fld_187_2 (hE19 13 rfl)) <| x_done <|
            ?_
          refine x_fin ⟨⟨_, rfl⟩, rfl, ?_⟩
          exact Eq.mp (by kernel_rfl) hS
        · intro Ep19 w l' hE19 hO19 hF_ hS
          obtain ⟨q20, -⟩ := hF_
          replace q20 : Ep19 147 = .pointer (some ⟨b13, 2, none⟩) := Eq.mp (by kernel_rfl) q20
          replace hS : St w0 w (cells b13 187 [.int .i64 q2.Row, .int .i64 q2.Col, .int .i64 q2.Side, .int .i64 q2.Track] :: l') := Eq.mp (by kernel_rfl) hS
          refine pa (at_load one_3 q20 (hS.cell rfl)) <| x_done <|
            ?_
          refine x_fin ⟨⟨_, rfl⟩, rfl, ?_⟩
          exact Eq.mp (by kernel_rfl) hS
        · intro Ep19 w l' hE19 hO19 hF_ hS
          refine p (yl_field0 fld_187_3 (hE19 13 rfl)) <| x_done <|
            ?_
          refine x_fin ⟨⟨_, rfl⟩, rfl, ?_⟩
          exact Eq.mp (by kernel_rfl) hS
        · intro Ep19 w l' hE19 hO19 hF_ hS
          obtain ⟨q21, -⟩ := hF_
          replace q21 : Ep19 149 = .pointer (some ⟨b13, 3, none⟩) := Eq.mp (by kernel_rfl) q21
          replace hS : St w0 w (cells b13 187 [.int .i64 q2.Row, .int .i64 q2.Col, .int .i64 q2.Side, .int .i64 q2.Track] :: l') := Eq.mp (by kernel_rfl) hS
          refine pa (at_load one_3 q21 (hS.cell rfl)) <| x_done <|
            ?_
          refine x_fin ⟨⟨_, rfl⟩, rfl, ?_⟩
          exact Eq.mp (by kernel_rfl) hS
        · intro Ep19 w l' hE19 hO19 hF_ hS
          obtain ⟨q2n, q22, q23, q24, -⟩ := hF_
          replace q2n : Ep19 135 = .agg #[.int .i64 m0.fc.Rows, .int .i64 m0.fc.Cols, .int .i64 m0.fc.Tracks, .slice q0c m0.fc.Tiles.length c_m0_3, .slice q0d m0.fc.In.length c_m0_4, .slice q0a m0.fc.Out.length c_m0_5] := Eq.mp (by kernel_rfl) q2n
          replace q22 : Ep19 146 = .int .i64 x146 := Eq.mp (by kernel_rfl) q22
          replace q23 : Ep19 148 = .int .i64 q2.Side := Eq.mp (by kernel_rfl) q23
          replace q24 : Ep19 150 = .int .i64 q2.Track := Eq.mp (by kernel_rfl) q24
          replace hS : St w0 w (ro ρ :: l') := Eq.mp (by kernel_rfl) hS
          have hcall := c_array_Config_wire q4g q1j q2t q1k hS
          refine o_cc call_146 (args4 q2n q22 q23 q24) (hcall) ?_
          rintro e w' ⟨rfl, hS⟩
          refine ⟨_, rfl, ?_⟩
          refine x_done <|
            ?_
          refine x_fin ⟨⟨_, rfl⟩, rfl, ?_⟩
          exact Eq.mp (by kernel_rfl) hS
        · intro Ep19 w l' hE19 hO19 hF_ hS
          obtain ⟨q2o, q25, -⟩ := hF_
          replace q2o : Ep19 131 = .slice q4 m0.fwires.length c_m0_7 := Eq.mp (by kernel_rfl) q2o
          replace q25 : Ep19 151 = .int .i64 q1q := Eq.mp (by kernel_rfl) q25
          replace hS : St w0 w (vec 4 RpB.sz (.slice q4 m0.fwires.length c_m0_7) m0.fwires.length q9 :: l') := Eq.mp (by kernel_rfl) hS
          refine p (yix_o sl_124 q2o q25 hS q1b q3k) <| x_done <|
            ?_
          refine x_fin ⟨⟨_, rfl⟩, rfl, ?_⟩
          exact Eq.mp (by kernel_rfl) hS
        · intro Ep19 w l' hE19 hO19 hF_ hS
          obtain ⟨q26, -⟩ := hF_
          replace q26 : Ep19 152 = .pointer (some ((adr q4).add (q1q.toNat * RpB.sz))) := Eq.mp (by kernel_rfl) q26
          replace hS : St w0 w (vec 4 RpB.sz (.slice q4 m0.fwires.length c_m0_7) m0.fwires.length q9 :: l') := Eq.mp (by kernel_rfl) hS
          refine pa (at_load one_4 q26 (RepL.getW q1b hS q3k hx153)) <| x_done <|
            ?_
          refine x_fin ⟨⟨_, rfl⟩, rfl, ?_⟩
          exact Eq.mp (by kernel_rfl) hS
        · intro Ep19 w l' hE19 hO19 hF_ hS
          obtain ⟨q27, -⟩ := hF_
          replace q27 : Ep19 153 = .bool x153 := Eq.mp (by kernel_rfl) q27
          refine o_buildSlice (vs := [.bool x153]) (cs := [.bool x153]) sl_124 zero_4 (parts_eq (pt (va := .bool x153) q27 pt0)) rfl (by intro v hv; simp only [List.mem_cons, List.not_mem_nil, or_false] at hv; first | (subst hv; rfl) | (rcases hv with rfl <;> rfl)) (by decide) rfl hS (fun b154 w' hS => ?_)
          refine x_done <|
            ?_
          refine x_fin ⟨⟨_, rfl⟩, rfl, ?_⟩
          exact Eq.mp (by kernel_rfl) hS
        · intro Ep19 w l' hE19 hO19 hF_ hS
          obtain ⟨q2p, q28, -⟩ := hF_
          replace q2p : Ep19 127 = .slice q0f q0b.length c_out11_L17h := Eq.mp (by kernel_rfl) q2p
          replace q28 : Ep19 154 = .slice (some ⟨(blkOf (Ep19 154)), 0, none⟩) 1 1 := Eq.mp (by kernel_rfl) q28
          replace hS : St w0 w (cells (blkOf (Ep19 154)) 4 [.bool x153] :: ro ρ :: vec 4 RpB.sz (.slice q0f q0b.length c_out11_L17h) q0b.length q0m :: l') := Eq.mp (by kernel_rfl) hS
          refine o_ap sl_124 zero_4 rfl (by decide) q2p q28 (hS.pull 2) q1c (src_blk usl_124 hS rfl rfl) (RepL.cons (R := RpB) (ρ := ρ) (x := x153) (cs := [.bool x153]) rfl RepL.nil) q4h q4i (fun A155 c155 cs155 w' hr155 hS => ?_)
          refine x_done <|
            ?_
          refine x_fin ⟨⟨_, rfl⟩, rfl, ?_⟩
          replace hS := St.bun (Φ := (fun (cs155 : List Value) => RepL RpB ρ q0i cs155)) (L := (fun (cs155 : List Value) => [vec 4 RpB.sz (.slice A155 q0i.length c155) q0i.length cs155])) cs155 hr155 hS
          exact Eq.mp (by kernel_rfl) ((hS.pull 2).pull 2)
        · intro Ep19 w l' hE19 hO19 hF_ hS
          obtain ⟨q29, -⟩ := hF_
          replace q29 : Ep19 155 = .slice (adOf (Ep19 155)) q0i.length (capOf (Ep19 155)) := Eq.mp (by kernel_rfl) q29
          refine p (yl_assign q29) <| x_done <|
            ?_
          refine x_fin ⟨⟨_, rfl⟩, rfl, ?_⟩
          exact Eq.mp (by kernel_rfl) hS
      intro Ep19 w' hE19 hF_ hS
      obtain ⟨q2p, q2g, q2h, q2i, q2o, q2j, q2k, q2l, q2n, q2m, q1v, q1r, q1s, q1t, q1u, q1w, q1y, q1x, q1z, q22, q20, q23, q21, q24, q25, q26, q27, q28, q29, q3c, -⟩ := hF_
      replace q2p : Ep19 127 = .slice q0f q0b.length c_out11_L17h := Eq.mp (by kernel_rfl) q2p
      replace q2g : Ep19 128 = .pointer (some ⟨q3, 0, none⟩) := Eq.mp (by kernel_rfl) q2g
      replace q2h : Ep19 129 = .pointer (some ⟨q3, 0, none⟩) := Eq.mp (by kernel_rfl) q2h
      replace q2i : Ep19 130 = .pointer (some ⟨q3, 7, none⟩) := Eq.mp (by kernel_rfl) q2i
      replace q2o : Ep19 131 = .slice q4 m0.fwires.length c_m0_7 := Eq.mp (by kernel_rfl) q2o
      replace q2j : Ep19 132 = .pointer (some ⟨q3, 0, none⟩) := Eq.mp (by kernel_rfl) q2j
      replace q2k : Ep19 133 = .pointer (some ⟨q3, 0, none⟩) := Eq.mp (by kernel_rfl) q2k
      replace q2l : Ep19 134 = .pointer (some ⟨q3, 0, none⟩) := Eq.mp (by kernel_rfl) q2l
      replace q2n : Ep19 135 = .agg #[.int .i64 m0.fc.Rows, .int .i64 m0.fc.Cols, .int .i64 m0.fc.Tracks, .slice q0c m0.fc.Tiles.length c_m0_3, .slice q0d m0.fc.In.length c_m0_4, .slice q0a m0.fc.Out.length c_m0_5] := Eq.mp (by kernel_rfl) q2n
      replace q2m : Ep19 136 = .pointer (some ⟨b13, 0, none⟩) := Eq.mp (by kernel_rfl) q2m
      replace q1v : Ep19 137 = .int .i64 q2.Row := Eq.mp (by kernel_rfl) q1v
      replace q1r : Ep19 138 = .pointer (some ⟨q3, 0, none⟩) := Eq.mp (by kernel_rfl) q1r
      replace q1s : Ep19 139 = .pointer (some ⟨q3, 0, none⟩) := Eq.mp (by kernel_rfl) q1s
      replace q1t : Ep19 140 = .pointer (some ⟨q3, 0, none⟩) := Eq.mp (by kernel_rfl) q1t
      replace q1u : Ep19 141 = .pointer (some ⟨q3, 1, none⟩) := Eq.mp (by kernel_rfl) q1u
      replace q1w : Ep19 142 = .int .i64 m0.fc.Cols := Eq.mp (by kernel_rfl) q1w
      replace q1y : Ep19 143 = .int .i64 x143 := Eq.mp (by kernel_rfl) q1y
      replace q1x : Ep19 144 = .pointer (some ⟨b13, 1, none⟩) := Eq.mp (by kernel_rfl) q1x
      replace q1z : Ep19 145 = .int .i64 q2.Col := Eq.mp (by kernel_rfl) q1z
      replace q22 : Ep19 146 = .int .i64 x146 := Eq.mp (by kernel_rfl) q22
      replace q20 : Ep19 147 = .pointer (some ⟨b13, 2, none⟩) := Eq.mp (by kernel_rfl) q20
      replace q23 : Ep19 148 = .int .i64 q2.Side := Eq.mp (by kernel_rfl) q23
      replace q21 : Ep19 149 = .pointer (some ⟨b13, 3, none⟩) := Eq.mp (by kernel_rfl) q21
      replace q24 : Ep19 150 = .int .i64 q2.Track := Eq.mp (by kernel_rfl) q24
      replace q25 : Ep19 151 = .int .i64 q1q := Eq.mp (by kernel_rfl) q25
      replace q26 : Ep19 152 = .pointer (some ((adr q4).add (q1q.toNat * RpB.sz))) := Eq.mp (by kernel_rfl) q26
      replace q27 : Ep19 153 = .bool x153 := Eq.mp (by kernel_rfl) q27
      replace q28 : Ep19 154 = .slice (some ⟨(blkOf (Ep19 154)), 0, none⟩) 1 1 := Eq.mp (by kernel_rfl) q28
      replace q29 : Ep19 155 = .slice (adOf (Ep19 155)) q0i.length (capOf (Ep19 155)) := Eq.mp (by kernel_rfl) q29
      replace q3c : Ep19 11 = .slice (adOf (Ep19 155)) q0i.length (capOf (Ep19 155)) := Eq.mp (by kernel_rfl) q3c
      replace hS : St w0 w' (cells q3 257 [.int .i64 m0.fc.Rows, .int .i64 m0.fc.Cols, .int .i64 m0.fc.Tracks, .slice q0c m0.fc.Tiles.length c_m0_3, .slice q0d m0.fc.In.length c_m0_4, .slice q0a m0.fc.Out.length c_m0_5, .slice q5 m0.forder.length c_m0_6, .slice q4 m0.fwires.length c_m0_7, .slice q6 m0.ftable.length c_m0_8, .slice q7 m0.fflop.length c_m0_9] :: cells b13 187 [.int .i64 q2.Row, .int .i64 q2.Col, .int .i64 q2.Side, .int .i64 q2.Track] :: ro ρ :: vec 4 RpB.sz (.slice q4 m0.fwires.length c_m0_7) m0.fwires.length q9 :: cells (blkOf (Ep19 154)) 4 [.bool x153] :: bunA (fun (cs155 : List Value) => RepL RpB ρ q0i cs155) (fun (cs155 : List Value) => [vec 4 RpB.sz (.slice (adOf (Ep19 155)) q0i.length (capOf (Ep19 155))) q0i.length cs155]) :: (vec 3 (RpI .i64).sz (.slice q5 m0.forder.length c_m0_6) m0.forder.length q0k :: vec 4 RpB.sz (.slice q6 m0.ftable.length c_m0_8) m0.ftable.length q0h :: vec 4 RpB.sz (.slice q7 m0.fflop.length c_m0_9) m0.fflop.length q0n :: l)) := Eq.mp (by kernel_rfl) hS
      have q_ := St.unbun (hS.pull 5); obtain ⟨cs155, hr155, hS⟩ := q_
      replace hFL17 := ar_s hFL17; obtain ⟨x156, hx156, hFL17⟩ := hFL17
      refine x_blk <| x_region <| p (yadd ((hE19 123 rfl).trans q2f) rfl hx156) <| p (yl_move rfl) <|
        x_done <|
        ?_
      have e_ := Option.some.inj (show some _ = some _ from hFL17); subst e_
      exact x_inv ⟨kL17, Nat.lt_succ_self _, (adOf (Ep19 155)), q0i.length, (capOf (Ep19 155)), cs155, q0i, x156, hLL17, ((hE19 0 rfl).trans q1p), q3c, ((hE19 121 rfl).trans q2y), ((hE19 122 rfl).trans q2z), rfl, hr155, (((((((((hS.pull 2).drop.pull 4).drop.pull 2).pull 6).pull 6).pull 5).pull 6).pull 5).pull 6)⟩
    · replace hFL17 := it_f hc124 hFL17
      refine x_exitTo _ rfl <|
        ?_
      have e_ := Option.some.inj (show some _ = some _ from hFL17); subst e_
      exact x_inv ⟨q0f, q0b.length, c_out11_L17h, q0m, q0b, hLL17, q1p, q3b, q1c, (((((((hS.pull 6).pull 6).pull 6).pull 6).pull 6).pull 6).pull 6)⟩
  rintro E w ⟨q12, q13, c_out11_L17, q0w, q1d, rfl, q3w, q4j, q2r, hS⟩
  have e_ := St.vec_n (hS.pull 1) q2r; subst e_
  refine x_seq <| x_head 8 mixed (by kernel_rfl) hS _ _ rfl rfl <| q (yl_move q3w) <| q (yl_nilCheck rfl) <|
    q (yl_field0 fld_257_4 rfl) <| qa (fun w' hS => at_load one_124 rfl (hS.cell rfl)) <| q (yl_move q3w) <| q (yl_nilCheck rfl) <|
    q (yl_field0 fld_257_3 rfl) <| qa (fun w' hS => at_load one_124 rfl (hS.cell rfl)) <|
    q_done fun w' hS => ?_
  replace hF := lv_s hF; obtain ⟨q60, q57, hF⟩ := hF
  refine o_copy usl_124 isz_4 rfl rfl rfl ((hS.pull 4).pull 5) q1l q2e q57 (fun q58 w' q59 hS => ?_)
  refine x_done <| x_seq <| x_region <| p (yl_move q4j) <|
    p (yl_assign rfl) <| x_done <|
    ?_
  have e_ := Option.some.inj (show some _ = some _ from hF); subst e_
  exact x_return ⟨_, ⟨_, _, rfl, rfl, rfl⟩, q12, q1d.length, c_out11_L17, q0w, q9, q0h, q58, rfl, q2r, q1b, q2e, q59, (((((((hS.pull 6).pull 1).pull 2).pull 6).pull 6).pull 5).pull 6)⟩
attribute [irreducible] P_array_machine_cycle

def P_array_Run_L7 (c0 : T_array_Config) (trace1 : List (List Bool)) : Int → Option (Int ⊕ (Unit ⊕ (List (List Bool) × Int))) := fun q2 =>
  if q2 < (trace1.length : Int) then
    ck (inb q2 trace1.length) <|
    lv (gt trace1 q2) fun q3 =>
    if (q3.length : Int) ≠ (c0.In.length : Int) then
      some (Sum.inr (Sum.inr ([], (4 : Int))))
    else
      ar (q2 + 1) fun x33 =>
      some (Sum.inl x33)
  else
    some (Sum.inr (Sum.inl ()))
def P_array_Run_L15 (c0 : T_array_Config) (trace1 : List (List Bool)) (q9 : (List Int × List Bool × List Bool × List Bool)) : (List (List Bool) × Int × List Bool × List Bool × List Bool) → Option ((List (List Bool) × Int × List Bool × List Bool × List Bool) ⊕ List (List Bool)) := fun (q6, q2, q3, q4, q5) =>
  if q2 < (trace1.length : Int) then
    ck (inb q2 trace1.length) <|
    lv (gt trace1 q2) fun q0a =>
    bd (P_array_machine_cycle (T_array_machine.mk (T_array_Config.mk c0.Rows c0.Cols c0.Tracks c0.Tiles c0.In c0.Out) q9.1 q3 q4 q5) q0a) fun q7 =>
    lv (q6 ++ [q7.1]) fun q8 =>
    ck (apOk 24 q8.length) <|
    ar (q2 + 1) fun x48 =>
    some (Sum.inl (q8, x48, q7.2.1, q7.2.2.1, q7.2.2.2))
  else
    some (Sum.inr q6)
def P_array_Run (c0 : T_array_Config) (trace1 : List (List Bool)) : Option (List (List Bool) × Int) :=
  bd (P_array_Check c0) fun q4 =>
  if q4 ≠ 0 then
    some ([], q4)
  else
    if 64 < (trace1.length : Int) then
      some ([], (3 : Int))
    else
      bs (
        lp (P_array_Run_L7 c0 trace1) fuel 0) (fun y => some y) fun _ =>
      bd (P_array_newMachine c0) fun q2 =>
      bd (
        lp (P_array_Run_L15 c0 trace1 q2) fuel ([], 0, q2.2.1, q2.2.2.1, q2.2.2.2)) fun q3 =>
      some (q3, (0 : Int))
set_option maxHeartbeats 4000000 in
set_option maxRecDepth 100000 in
theorem c_array_Run {w0 w : World} {l : List Assn} {ρ : Heap} {q0s : Option Addr} {q26 : Nat} {c_c0_3 : Nat} {q0t : Option Addr} {q27 : Nat} {c_c0_4 : Nat} {q0u : Option Addr} {q28 : Nat} {c_c0_5 : Nat} {q0p : Option Addr} {q1s : Nat} {c_trace1 : Nat} {c0 : T_array_Config} {trace1 : List (List Bool)} {r : (List (List Bool) × Int)} (hF : P_array_Run c0 trace1 = some r) (q1m : RdS R_array_Tile ρ q0s q26 c_c0_3 c0.Tiles) (q1n : RdS R_array_Pad ρ q0t q27 c_c0_4 c0.In) (q1o : RdS R_array_Pad ρ q0u q28 c_c0_5 c0.Out) (q0w : RdS (RpSl RpB) ρ q0p q1s c_trace1 trace1) (hS : St w0 w (ro ρ :: l)) :
    Calls Try.prog 58 #[.agg #[.int .i64 c0.Rows, .int .i64 c0.Cols, .int .i64 c0.Tracks, .slice q0s q26 c_c0_3, .slice q0t q27 c_c0_4, .slice q0u q28 c_c0_5], .slice q0p q1s c_trace1] w fun e w' => ∃ (ρ' : Heap) (q1t : Option Addr) (q1k : Nat) (c_y0_ret : Nat) (q1r : List Value), e = .returned (.tuple #[.slice q1t q1k c_y0_ret, .int .i64 r.2]) ∧ Le ρ ρ' ∧ RepL (RpSl RpB) ρ' r.1 q1r ∧ St w0 w' (vec 124 (RpSl RpB).sz (.slice q1t q1k c_y0_ret) q1k q1r :: ro ρ' :: l) := by
  have e_ := q1m.n; subst e_
  have e_ := q1n.n; subst e_
  have e_ := q1o.n; subst e_
  have e_ := q0w.n; subst e_
  refine enterC Try.func58 rfl 50 rfl (by simp) ?_
  refine x_seq <| x_region <|
    ?_
  refine o_box (cs := [.int .i64 c0.Rows, .int .i64 c0.Cols, .int .i64 c0.Tracks, .slice q0s c0.Tiles.length c_c0_3, .slice q0t c0.In.length c_c0_4, .slice q0u c0.Out.length c_c0_5]) rfl rfl hS (fun b2 w' hS => ?_)
  replace hF := bd_s hF; obtain ⟨q1u, q2s, hF⟩ := hF
  refine p (yl_assign rfl) <| p (yl_assign rfl) <| x_done <| x_seq <|
    x_seq <| x_region <| pa (v := .agg #[.int .i64 c0.Rows, .int .i64 c0.Cols, .int .i64 c0.Tracks, .slice q0s c0.Tiles.length c_c0_3, .slice q0t c0.In.length c_c0_4, .slice q0u c0.Out.length c_c0_5]) (ld_sub agg_81 rfl rfl rfl hS) <|
    ?_
  have hcall := c_array_Check q2s q1m q1n q1o (hS.pull 1)
  refine o_cc call_87 (args1 rfl) ((Calls.mono hcall (fun e w'' h => And.intro h.1 (h.2.pull 1)))) ?_
  rintro e w' ⟨rfl, hS⟩
  refine ⟨_, rfl, ?_⟩
  refine p (v := .int .i64 q1u) (yl_assign rfl) <| x_done <| x_seq <| x_region <|
    p (v := .int .i64 q1u) (yl_move rfl) <| p (yl_neq rfl rfl) <| x_done <|
    x_cond_p (q1u ≠ 0) rfl (fun hc16 => ?_) (fun hc16 => ?_)
  · replace hF := it_t hc16 hF
    refine x_seq <| x_region <| p (v := .int .i64 q1u) (yl_move rfl) <| p (yl_assign rfl) <|
      p (v := .int .i64 q1u) (yl_assign rfl) <| x_done <|
      ?_
    replace hS := St.vec_nil hS 124 (RpSl RpB).sz
    have q0a : RepL (RpSl RpB) ρ [] [] := rfl
    have e_ := Option.some.inj (show some _ = some _ from hF); subst e_
    exact x_return ⟨_, ⟨_, _, rfl, rfl, _, _, rfl, rfl, rfl⟩, ρ, none, 0, 0, [], rfl, (Le.refl _), q0a, (((hS.pull 1).drop.pull 1).pull 1)⟩
  · replace hF := it_f hc16 hF
    refine x_skip <| x_seq <| x_seq <| x_region <|
      p (yl_move rfl) <| p (yl_len_slice usl_118 rfl) <| p (yl_gtr rfl rfl) <| x_done <|
      x_cond_p (64 < (trace1.length : Int)) rfl (fun hc20 => ?_) (fun hc20 => ?_)
    · replace hF := it_t hc20 hF
      refine x_seq <| x_region <| p (yl_assign rfl) <| p (yl_assign rfl) <|
        x_done <|
        ?_
      replace hS := St.vec_nil hS 124 (RpSl RpB).sz
      have q0a : RepL (RpSl RpB) ρ [] [] := rfl
      have e_ := Option.some.inj (show some _ = some _ from hF); subst e_
      exact x_return ⟨_, ⟨_, _, rfl, rfl, _, _, rfl, rfl, rfl⟩, ρ, none, 0, 0, [], rfl, (Le.refl _), q0a, (((hS.pull 1).drop.pull 1).pull 1)⟩
    · replace hF := it_f hc20 hF
      refine x_skip <| x_seq <| x_seq <| x_region <|
        p (yl_move rfl) <| p (yl_len_slice usl_118 rfl) <| p (yl_move rfl) <| x_done <|
        ?_
      replace hF := bs_s hF; obtain ⟨oL7, hLL7, hF⟩ := hF
      refine x_join (fun E w => (Sum.inl (())) = oL7 ∧ E 1 = .slice q0p trace1.length c_trace1 ∧ E 2 = .pointer (some ⟨b2, 0, none⟩) ∧ St w0 w (cells b2 81 [.int .i64 c0.Rows, .int .i64 c0.Cols, .int .i64 c0.Tracks, .slice q0s c0.Tiles.length c_c0_3, .slice q0t c0.In.length c_c0_4, .slice q0u c0.Out.length c_c0_5] :: ro ρ :: l)) ?_ ?_
      · skip -- L7
        refine x_block ?_
        refine x_loop (fun k_ E w => ∃ (q1h : Int), lp (P_array_Run_L7 c0 trace1) k_ q1h = some oL7 ∧ E 1 = .slice q0p trace1.length c_trace1 ∧ E 2 = .pointer (some ⟨b2, 0, none⟩) ∧ E 21 = .slice q0p trace1.length c_trace1 ∧ E 22 = .int .i64 (trace1.length : Int) ∧ E 23 = .int .i64 q1h ∧ St w0 w (cells b2 81 [.int .i64 c0.Rows, .int .i64 c0.Cols, .int .i64 c0.Tracks, .slice q0s c0.Tiles.length c_c0_3, .slice q0t c0.In.length c_c0_4, .slice q0u c0.Out.length c_c0_5] :: ro ρ :: l)) fuel ⟨0, hLL7, rfl, rfl, rfl, rfl, rfl, ((hS.pull 1).pull 1)⟩ ?_
        rintro kL7 E w ⟨q1h, hLL7, q29, q1v, q1z, q20, q1q, hS⟩
        replace hLL7 := lp_s hLL7; obtain ⟨kL7, obL7, rfl, hFL7, hLL7⟩ := hLL7
        refine x_seq <| x_region <| p (yl_lss q1q q20) <| x_done <|
          x_seq <|
          x_cond_p (q1h < (trace1.length : Int)) rfl (fun hc24 => ?_) (fun hc24 => ?_)
        · replace hFL7 := it_t hc24 hFL7
          replace hFL7 := ck_s hFL7; obtain ⟨q2e, hFL7⟩ := hFL7
          replace hFL7 := lv_s hFL7; obtain ⟨q2x, q2t, hFL7⟩ := hFL7
          have q_ := q0w.get q2e; obtain ⟨q30, q2f, q2u⟩ := q_
          rw [← q2t] at q2f
          obtain ⟨q35, q36, q37, rfl, q2y⟩ := q2f
          have e_ := q2y.n; subst e_
          refine x_skip <| x_seq <| x_block <| x_seq <|
            x_region <| p (yix_f sl_118 q1z q1q q0w q2e) <| pa (at_load one_124 rfl (Elt.ld (j := 0) q2u (hS.pull 1) rfl)) <| p (yl_assign rfl) <|
            x_done <| x_seq <| x_region <| p (yl_move rfl) <|
            p (yl_len_slice usl_124 rfl) <| p (yl_field0 fld_81_4 q1v) <| pa (at_load one_79 rfl (hS.cell rfl)) <| p (yl_len_slice usl_79 rfl) <|
            p (yl_neq rfl rfl) <| x_done <|
            x_cond_p ((q2x.length : Int) ≠ (c0.In.length : Int)) rfl (fun hc32 => ?_) (fun hc32 => ?_)
          · replace hFL7 := it_t hc32 hFL7
            refine x_seq <| x_region <| p (yl_assign rfl) <| p (yl_assign rfl) <|
              x_done <|
              ?_
            replace hS := St.vec_nil hS 124 (RpSl RpB).sz
            have q0a : RepL (RpSl RpB) ρ [] [] := rfl
            have e_ := Option.some.inj (show some _ = some _ from hFL7); subst e_
            have e_ := (show _ = oL7 from hLL7); subst e_
            have e_ := Option.some.inj (show some _ = some _ from hF); subst e_
            exact x_return ⟨_, ⟨_, _, rfl, rfl, _, _, rfl, rfl, rfl⟩, ρ, none, 0, 0, [], rfl, (Le.refl _), q0a, (((hS.pull 1).drop.pull 1).pull 1)⟩
          · replace hFL7 := it_f hc32 hFL7
            replace hFL7 := ar_s hFL7; obtain ⟨x33, hx33, hFL7⟩ := hFL7
            refine x_skip <| x_blk <| x_region <| p (yadd q1q rfl hx33) <|
              p (yl_move rfl) <| x_done <|
              ?_
            have e_ := Option.some.inj (show some _ = some _ from hFL7); subst e_
            exact x_inv ⟨kL7, Nat.lt_succ_self _, x33, hLL7, q29, q1v, q1z, q20, rfl, ((hS.pull 1).pull 1)⟩
        · replace hFL7 := it_f hc24 hFL7
          refine x_exitTo _ rfl <|
            ?_
          have e_ := Option.some.inj (show some _ = some _ from hFL7); subst e_
          exact x_inv ⟨hLL7, q29, q1v, ((hS.pull 1).pull 1)⟩
      rintro E w ⟨rfl, q2v, q2w, hS⟩
      replace hF := bd_s hF; obtain ⟨q6, q2l, hF⟩ := hF
      refine x_seq <| x_region <| pa (v := .agg #[.int .i64 c0.Rows, .int .i64 c0.Cols, .int .i64 c0.Tracks, .slice q0s c0.Tiles.length c_c0_3, .slice q0t c0.In.length c_c0_4, .slice q0u c0.Out.length c_c0_5]) (ld_sub agg_81 q2w rfl rfl hS) <|
        ?_
      have hcall := c_array_newMachine q2l q1m q1n q1o (hS.pull 1)
      refine o_cc call_117 (args1 rfl) hcall ?_
      rintro e w' ⟨q19, q0d, q21, c_b_y0_ret_6_ret_12_1, q11, q0e, q22, c_b_y0_ret_7_ret_12_1, q12, q0f, q23, c_b_y0_ret_8_ret_12_1, q13, q0g, q24, c_b_y0_ret_9_ret_12_1, q14, rfl, q0h, q0i, q0j, q0k, hS⟩
      refine ⟨_, rfl, ?_⟩
      have e_ := St.vec_n (hS.pull 1) q0h; subst e_
      have e_ := St.vec_n (hS.pull 2) q0i; subst e_
      have e_ := St.vec_n (hS.pull 3) q0j; subst e_
      have e_ := St.vec_n (hS.pull 4) q0k; subst e_
      refine p (yl_assign rfl) <| x_done <| x_seq <| x_region <|
        p (yl_assign rfl) <| x_done <| x_seq <| x_seq <|
        x_region <| p (yl_move q2v) <| p (yl_len_slice usl_118 rfl) <| p (yl_move rfl) <|
        x_done <|
        ?_
      replace hF := bd_s hF; obtain ⟨oL15, hLL15, hF⟩ := hF
      refine x_join (fun E w => ∃ (q1p : Heap) (q0q : Option Addr) (q0r : Nat) (c_out10_L15 : Nat) (q0l : List Value) (q0z : List (List Bool)), q0z = oL15 ∧ Le ρ q1p ∧ E 10 = .slice q0q q0r c_out10_L15 ∧ RepL (RpSl RpB) q1p q0z q0l ∧ St w0 w (vec 124 (RpSl RpB).sz (.slice q0q q0r c_out10_L15) q0r q0l :: ro q1p :: l)) ?_ ?_
      · skip -- L15
        refine x_block ?_
        replace hS := St.vec_nil hS 124 (RpSl RpB).sz
        have q1i : RepL (RpSl RpB) ρ [] [] := rfl
        refine x_loop (fun k_ E w => ∃ (q0v : Heap) (q0m : Option Addr) (q0n : Nat) (c_out10_L15h : Nat) (q0b : List Value) (q2 : List Value) (q3 : List Value) (q4 : List Value) (q0o : List (List Bool)) (q18 : Int) (q7 : List Bool) (q8 : List Bool) (q9 : List Bool), lp (P_array_Run_L15 c0 trace1 q6) k_ (q0o, q18, q7, q8, q9) = some oL15 ∧ Le ρ q0v ∧ E 9 = .pointer (some ⟨q19, 0, none⟩) ∧ E 10 = .slice q0m q0n c_out10_L15h ∧ E 36 = .slice q0p trace1.length c_trace1 ∧ E 37 = .int .i64 (trace1.length : Int) ∧ E 38 = .int .i64 q18 ∧ RepL (RpSl RpB) q0v q0o q0b ∧ RepL RpB q0v q7 q2 ∧ RepL RpB q0v q8 q3 ∧ RepL RpB q0v q9 q4 ∧ St w0 w (cells q19 257 [.int .i64 c0.Rows, .int .i64 c0.Cols, .int .i64 c0.Tracks, .slice q0s c0.Tiles.length c_c0_3, .slice q0t c0.In.length c_c0_4, .slice q0u c0.Out.length c_c0_5, .slice q0d q6.1.length c_b_y0_ret_6_ret_12_1, .slice q0e q6.2.1.length c_b_y0_ret_7_ret_12_1, .slice q0f q6.2.2.1.length c_b_y0_ret_8_ret_12_1, .slice q0g q6.2.2.2.length c_b_y0_ret_9_ret_12_1] :: vec 124 (RpSl RpB).sz (.slice q0m q0n c_out10_L15h) q0n q0b :: vec 3 (RpI .i64).sz (.slice q0d q6.1.length c_b_y0_ret_6_ret_12_1) q6.1.length q11 :: vec 4 RpB.sz (.slice q0e q6.2.1.length c_b_y0_ret_7_ret_12_1) q6.2.1.length q2 :: vec 4 RpB.sz (.slice q0f q6.2.2.1.length c_b_y0_ret_8_ret_12_1) q6.2.2.1.length q3 :: vec 4 RpB.sz (.slice q0g q6.2.2.2.length c_b_y0_ret_9_ret_12_1) q6.2.2.2.length q4 :: ro q0v :: l)) fuel ⟨ρ, none, 0, 0, [], q12, q13, q14, [], 0, q6.2.1, q6.2.2.1, q6.2.2.2, hLL15, (Le.refl _), rfl, rfl, rfl, rfl, rfl, q1i, q0i, q0j, q0k, ((((((((hS.pull 7).drop.pull 6).pull 6).pull 6).pull 6).pull 6).pull 5).pull 6)⟩ ?_
        rintro kL15 E w ⟨q0v, q0m, q0n, c_out10_L15h, q0b, q2, q3, q4, q0o, q18, q7, q8, q9, hLL15, q5, q25, q1w, q1x, q1y, q1l, q0x, q15, q16, q17, hS⟩
        have e_ := St.vec_n (hS.pull 1) q0x; subst e_
        replace hLL15 := lp_s hLL15; obtain ⟨kL15, obL15, rfl, hFL15, hLL15⟩ := hLL15
        refine x_seq <| x_region <| p (yl_lss q1l q1y) <| x_done <|
          x_seq <|
          x_cond_p (q18 < (trace1.length : Int)) rfl (fun hc39 => ?_) (fun hc39 => ?_)
        · replace hFL15 := it_t hc39 hFL15
          replace hFL15 := ck_s hFL15; obtain ⟨q2a, hFL15⟩ := hFL15
          replace hFL15 := lv_s hFL15; obtain ⟨q31, q2m, hFL15⟩ := hFL15
          have q_ := q0w.get q2a; obtain ⟨q2z, q2b, q2n⟩ := q_
          rw [← q2m] at q2b
          obtain ⟨q32, q33, q34, rfl, q2g⟩ := q2b
          have e_ := q2g.n; subst e_
          replace hFL15 := bd_s hFL15; obtain ⟨q10, q2o, hFL15⟩ := hFL15
          refine x_skip <| x_seq <| x_block <| x_seq <|
            x_region <| p (yix_f sl_118 q1x q1l (q0w.le q5) q2a) <| pa (at_load one_124 rfl (Elt.ld (j := 0) (Elt.le q2n q5) (hS.pull 6) rfl)) <| p (yl_assign rfl) <|
            x_done <| x_region <| p (yl_move q1w) <| p (yl_move q25) <|
            p (yl_move rfl) <|
            ?_
          have hcall := c_array_machine_cycle q2o (q1m.le q5) (q1n.le q5) (q1o.le q5) (q0h.le q5) q15 q16 q17 (q2g.le q5) ((((((hS.pull 6).pull 6).pull 6).pull 6).pull 6).pull 5)
          refine o_cc call_118 (args2 rfl rfl) hcall ?_
          rintro e w' ⟨q0c, q2k, c_y0_ret_17_3, q2i, q1b, q1c, q1d, rfl, q1a, q1e, q1f, q1g, hS⟩
          refine ⟨_, rfl, ?_⟩
          have e_ := St.vec_n hS q1a; subst e_
          have q_ := St.vec_fz ((hS.pull 6).pull 1) q1a; obtain ⟨q2c, q0y, q2p, hS⟩ := q_
          refine o_buildSlice (vs := [.slice q0c q10.1.length c_y0_ret_17_3]) (cs := [.slice q0c q10.1.length c_y0_ret_17_3]) sl_118 zero_124 (parts_eq (pt (va := .slice q0c q10.1.length c_y0_ret_17_3) rfl pt0)) rfl (by intro v hv; simp only [List.mem_cons, List.not_mem_nil, or_false] at hv; first | (subst hv; rfl) | (rcases hv with rfl <;> rfl)) (by decide) rfl hS (fun b46 w' hS => ?_)
          replace hFL15 := lv_s hFL15; obtain ⟨q2h, q2q, hFL15⟩ := hFL15
          replace hFL15 := ck_s hFL15; obtain ⟨q2r, hFL15⟩ := hFL15
          refine o_ap sl_118 zero_124 rfl (by decide) rfl rfl (hS.pull 7) (q0x.le q0y) (src_blk usl_118 hS rfl rfl) (RepL.cons (R := (RpSl RpB)) (ρ := q2c) (x := q10.1) (cs := [.slice q0c q10.1.length c_y0_ret_17_3]) ⟨_, _, _, rfl, q2p⟩ RepL.nil) q2q q2r (fun A47 c47 cs47 w' hr47 hS => ?_)
          replace hFL15 := ar_s hFL15; obtain ⟨x48, hx48, hFL15⟩ := hFL15
          refine p (yl_assign rfl) <| x_done <| x_blk <| x_region <|
            p (yadd q1l rfl hx48) <| p (yl_move rfl) <| x_done <|
            ?_
          have e_ := Option.some.inj (show some _ = some _ from hFL15); subst e_
          exact x_inv ⟨kL15, Nat.lt_succ_self _, q2c, A47, q2h.length, c47, cs47, q1b, q1c, q1d, q2h, x48, q10.2.1, q10.2.2.1, q10.2.2.2, hLL15, (q5.trans q0y), q25, rfl, q1x, q1y, rfl, hr47, (q1e.le q0y), (q1f.le q0y), (q1g.le q0y), ((((((((hS.pull 1).drop.pull 1).pull 6).pull 6).pull 6).pull 6).pull 5).pull 6)⟩
        · replace hFL15 := it_f hc39 hFL15
          refine x_exitTo _ rfl <|
            ?_
          have e_ := Option.some.inj (show some _ = some _ from hFL15); subst e_
          exact x_inv ⟨q0v, q0m, q0o.length, c_out10_L15h, q0b, q0o, hLL15, q5, q1w, q0x, ((((((hS.drop.pull 1).drop.pull 1).drop.pull 1).drop.pull 1).drop.pull 1).pull 1)⟩
      rintro E w ⟨q1p, q0q, q0r, c_out10_L15, q0l, q0z, rfl, q2d, q2j, q1j, hS⟩
      have e_ := St.vec_n hS q1j; subst e_
      refine x_seq <| x_region <| p (yl_move q2j) <| p (yl_assign rfl) <|
        p (yl_assign rfl) <| x_done <|
        ?_
      have e_ := Option.some.inj (show some _ = some _ from hF); subst e_
      exact x_return ⟨_, ⟨_, _, rfl, rfl, _, _, rfl, rfl, rfl⟩, q1p, q0q, q0z.length, c_out10_L15, q0l, rfl, q2d, q1j, ((hS.pull 1).pull 1)⟩
attribute [irreducible] P_array_Run

def P_maskkeep4_streams : Option Bool :=
  lv (([49, 50, 51, 52, 53, 54, 55, 56, 57] : List Int)) fun q2 =>
  bd (P_stream_Sum q2) fun q3 =>
  some (decide (q3 = 10673))
set_option maxHeartbeats 4000000 in
set_option maxRecDepth 100000 in
theorem c_maskkeep4_streams {w0 w : World} {l : List Assn} {ρ : Heap} {r : Bool} (hF : P_maskkeep4_streams = some r) (hS : St w0 w (ro ρ :: l)) :
    Calls Try.prog 37 #[] w fun e w' => e = .returned (.bool r) ∧ St w0 w' (ro ρ :: l) := by
  refine enterC Try.func37 rfl 5 rfl (by simp) ?_
  refine x_seq <| x_region <| p (yl_assign rfl) <| x_done <|
    x_seq <| x_region <|
    ?_
  refine o_buildSlice (vs := [.int .u8 49, .int .u8 50, .int .u8 51, .int .u8 52, .int .u8 53, .int .u8 54, .int .u8 55, .int .u8 56, .int .u8 57]) (cs := [.int .u8 49, .int .u8 50, .int .u8 51, .int .u8 52, .int .u8 53, .int .u8 54, .int .u8 55, .int .u8 56, .int .u8 57]) sl_75 zero_5 (parts_eq (pt (va := .int .u8 49) rfl (pt (va := .int .u8 50) rfl (pt (va := .int .u8 51) rfl (pt (va := .int .u8 52) rfl (pt (va := .int .u8 53) rfl (pt (va := .int .u8 54) rfl (pt (va := .int .u8 55) rfl (pt (va := .int .u8 56) rfl (pt (va := .int .u8 57) rfl pt0)))))))))) rfl (by intro v hv; simp only [List.mem_cons, List.not_mem_nil, or_false] at hv; first | (subst hv; rfl) | (rcases hv with rfl | rfl | rfl | rfl | rfl | rfl | rfl | rfl | rfl <;> rfl)) (by decide) rfl hS (fun b1 w' hS => ?_)
  replace hF := lv_s hF; obtain ⟨q5, q2, hF⟩ := hF
  refine o_cbyt (zs := q5) usl_75 ui_5 rfl (by rw [q2]; rfl) (by rw [q2]; rfl) (by decide) ((hS.pull 1).pull 1) (fun q6 w' q3 f2 hS => ?_)
  replace hF := bd_s hF; obtain ⟨q7, q4, hF⟩ := hF
  have hcall := c_stream_Sum q4 f2 hS
  refine o_cc call_93 (args1 rfl) (hcall) ?_
  rintro e w' ⟨rfl, hS⟩
  refine ⟨_, rfl, ?_⟩
  refine p (yl_eql rfl rfl) <| p (yl_assign rfl) <| x_done <|
    ?_
  have e_ := Option.some.inj (show some _ = some _ from hF); subst e_
  exact x_return ⟨_, ⟨_, _, rfl, rfl, rfl⟩, rfl, (ro_back0 q3 hS)⟩
attribute [irreducible] P_maskkeep4_streams

def P_slices_Equal_byte_byte_L4 (s10 : List Int) (s21 : List Int) : Int → Option (Int ⊕ (Unit ⊕ Bool)) := fun q2 =>
  if q2 < (s10.length : Int) then
    ck (inb q2 s10.length) <|
    lv (gt s10 q2) fun x19 =>
    ck (inb q2 s21.length) <|
    lv (gt s21 q2) fun x23 =>
    if x19 ≠ x23 then
      some (Sum.inr (Sum.inr false))
    else
      ar (q2 + 1) fun x25 =>
      some (Sum.inl x25)
  else
    some (Sum.inr (Sum.inl ()))
def P_slices_Equal_byte_byte (s10 : List Int) (s21 : List Int) : Option Bool :=
  if (s10.length : Int) ≠ (s21.length : Int) then
    some false
  else
    bs (
      lp (P_slices_Equal_byte_byte_L4 s10 s21) fuel 0) (fun y => some y) fun _ =>
    some true
set_option maxHeartbeats 4000000 in
set_option maxRecDepth 100000 in
theorem c_slices_Equal_byte_byte {w0 w : World} {l : List Assn} {ρ : Heap} {q5 : Option Addr} {q0b : Nat} {c_s10 : Nat} {q6 : Option Addr} {q0c : Nat} {c_s21 : Nat} {s10 : List Int} {s21 : List Int} {r : Bool} (hF : P_slices_Equal_byte_byte s10 s21 = some r) (q7 : RdS (RpI .u8) ρ q5 q0b c_s10 s10) (q8 : RdS (RpI .u8) ρ q6 q0c c_s21 s21) (hS : St w0 w (ro ρ :: l)) :
    Calls Try.prog 59 #[.slice q5 q0b c_s10, .slice q6 q0c c_s21] w fun e w' => e = .returned (.bool r) ∧ St w0 w' (ro ρ :: l) := by
  have e_ := q7.n; subst e_
  have e_ := q8.n; subst e_
  refine enterC Try.func59 rfl 26 rfl (by simp) ?_
  refine x_seq <| x_region <| p (yl_assign rfl) <| x_done <|
    x_seq <| x_seq <| x_region <| p (yl_move rfl) <|
    p (yl_len_slice usl_75 rfl) <| p (yl_move rfl) <| p (yl_len_slice usl_75 rfl) <| p (yl_neq rfl rfl) <|
    x_done <|
    x_cond_p ((s10.length : Int) ≠ (s21.length : Int)) rfl (fun hc10 => ?_) (fun hc10 => ?_)
  · replace hF := it_t hc10 hF
    refine x_seq <| x_region <| p (yl_assign rfl) <| x_done <|
      ?_
    have e_ := Option.some.inj (show some _ = some _ from hF); subst e_
    exact x_return ⟨_, ⟨_, _, rfl, rfl, rfl⟩, rfl, hS⟩
  · replace hF := it_f hc10 hF
    refine x_skip <| x_seq <| x_seq <| x_region <|
      p (yl_move rfl) <| p (yl_len_slice usl_75 rfl) <| p (yl_move rfl) <| x_done <|
      ?_
    replace hF := bs_s hF; obtain ⟨oL4, hLL4, hF⟩ := hF
    refine x_join (fun E w => (Sum.inl (())) = oL4 ∧ St w0 w (ro ρ :: l)) ?_ ?_
    · skip -- L4
      refine x_block ?_
      refine x_loop (fun k_ E w => ∃ (q2 : Int), lp (P_slices_Equal_byte_byte_L4 s10 s21) k_ q2 = some oL4 ∧ E 0 = .slice q5 s10.length c_s10 ∧ E 1 = .slice q6 s21.length c_s21 ∧ E 12 = .int .i64 (s10.length : Int) ∧ E 13 = .int .i64 q2 ∧ St w0 w (ro ρ :: l)) fuel ⟨0, hLL4, rfl, rfl, rfl, rfl, hS⟩ ?_
      rintro kL4 E w ⟨q2, hLL4, q9, q0a, q4, q3, hS⟩
      replace hLL4 := lp_s hLL4; obtain ⟨kL4, obL4, rfl, hFL4, hLL4⟩ := hLL4
      refine x_seq <| x_region <| p (yl_lss q3 q4) <| x_done <|
        x_seq <|
        x_cond_p (q2 < (s10.length : Int)) rfl (fun hc14 => ?_) (fun hc14 => ?_)
      · replace hFL4 := it_t hc14 hFL4
        replace hFL4 := ck_s hFL4; obtain ⟨q0d, hFL4⟩ := hFL4
        replace hFL4 := lv_s hFL4; obtain ⟨x19, hx19, hFL4⟩ := hFL4
        replace hFL4 := ck_s hFL4; obtain ⟨q0e, hFL4⟩ := hFL4
        replace hFL4 := lv_s hFL4; obtain ⟨x23, hx23, hFL4⟩ := hFL4
        refine x_skip <| x_seq <| x_block <| x_seq <|
          x_region <| p (yl_move q3) <| p (yl_assign rfl) <| x_done <|
          x_seq <| x_still mixed (by kernel_rfl) hS <| q (yl_move q9) <| q (yl_move rfl) <|
          q (yix_f sl_75 rfl rfl q7 q0d) <| qa (fun w' hS => at_load one_5 rfl (RdS.getW q7 hS q0d hx19)) <| q (yl_move q0a) <| q (yl_move rfl) <|
          q (yix_f sl_75 rfl rfl q8 q0e) <| qa (fun w' hS => at_load one_5 rfl (RdS.getW q8 hS q0e hx23)) <| q (yl_neq rfl rfl) <|
          q_done fun w' hS => ?_
        refine x_cond_p (x19 ≠ x23) rfl (fun hc24 => ?_) (fun hc24 => ?_)
        · replace hFL4 := it_t hc24 hFL4
          refine x_seq <| x_region <| p (yl_assign rfl) <| x_done <|
            ?_
          have e_ := Option.some.inj (show some _ = some _ from hFL4); subst e_
          have e_ := (show _ = oL4 from hLL4); subst e_
          have e_ := Option.some.inj (show some _ = some _ from hF); subst e_
          exact x_return ⟨_, ⟨_, _, rfl, rfl, rfl⟩, rfl, hS⟩
        · replace hFL4 := it_f hc24 hFL4
          replace hFL4 := ar_s hFL4; obtain ⟨x25, hx25, hFL4⟩ := hFL4
          refine x_skip <| x_blk <| x_region <| p (yadd q3 rfl hx25) <|
            p (yl_move rfl) <| x_done <|
            ?_
          have e_ := Option.some.inj (show some _ = some _ from hFL4); subst e_
          exact x_inv ⟨kL4, Nat.lt_succ_self _, x25, hLL4, q9, q0a, q4, rfl, hS⟩
      · replace hFL4 := it_f hc14 hFL4
        refine x_exitTo _ rfl <|
          ?_
        have e_ := Option.some.inj (show some _ = some _ from hFL4); subst e_
        exact x_inv ⟨hLL4, hS⟩
    rintro E w ⟨rfl, hS⟩
    refine x_seq <| x_region <| p (yl_assign rfl) <| x_done <|
      ?_
    have e_ := Option.some.inj (show some _ = some _ from hF); subst e_
    exact x_return ⟨_, ⟨_, _, rfl, rfl, rfl⟩, rfl, hS⟩
attribute [irreducible] P_slices_Equal_byte_byte

def P_slices_Equal_bool_bool_L4 (s10 : List Bool) (s21 : List Bool) : Int → Option (Int ⊕ (Unit ⊕ Bool)) := fun q2 =>
  if q2 < (s10.length : Int) then
    ck (inb q2 s10.length) <|
    lv (gt s10 q2) fun x19 =>
    ck (inb q2 s21.length) <|
    lv (gt s21 q2) fun x23 =>
    if (!(x19 == x23)) = true then
      some (Sum.inr (Sum.inr false))
    else
      ar (q2 + 1) fun x25 =>
      some (Sum.inl x25)
  else
    some (Sum.inr (Sum.inl ()))
def P_slices_Equal_bool_bool (s10 : List Bool) (s21 : List Bool) : Option Bool :=
  if (s10.length : Int) ≠ (s21.length : Int) then
    some false
  else
    bs (
      lp (P_slices_Equal_bool_bool_L4 s10 s21) fuel 0) (fun y => some y) fun _ =>
    some true
set_option maxHeartbeats 4000000 in
set_option maxRecDepth 100000 in
theorem c_slices_Equal_bool_bool {w0 w : World} {l : List Assn} {ρ : Heap} {q5 : Option Addr} {q0b : Nat} {c_s10 : Nat} {q6 : Option Addr} {q0c : Nat} {c_s21 : Nat} {s10 : List Bool} {s21 : List Bool} {r : Bool} (hF : P_slices_Equal_bool_bool s10 s21 = some r) (q7 : RdS RpB ρ q5 q0b c_s10 s10) (q8 : RdS RpB ρ q6 q0c c_s21 s21) (hS : St w0 w (ro ρ :: l)) :
    Calls Try.prog 61 #[.slice q5 q0b c_s10, .slice q6 q0c c_s21] w fun e w' => e = .returned (.bool r) ∧ St w0 w' (ro ρ :: l) := by
  have e_ := q7.n; subst e_
  have e_ := q8.n; subst e_
  refine enterC Try.func61 rfl 26 rfl (by simp) ?_
  refine x_seq <| x_region <| p (yl_assign rfl) <| x_done <|
    x_seq <| x_seq <| x_region <| p (yl_move rfl) <|
    p (yl_len_slice usl_124 rfl) <| p (yl_move rfl) <| p (yl_len_slice usl_124 rfl) <| p (yl_neq rfl rfl) <|
    x_done <|
    x_cond_p ((s10.length : Int) ≠ (s21.length : Int)) rfl (fun hc10 => ?_) (fun hc10 => ?_)
  · replace hF := it_t hc10 hF
    refine x_seq <| x_region <| p (yl_assign rfl) <| x_done <|
      ?_
    have e_ := Option.some.inj (show some _ = some _ from hF); subst e_
    exact x_return ⟨_, ⟨_, _, rfl, rfl, rfl⟩, rfl, hS⟩
  · replace hF := it_f hc10 hF
    refine x_skip <| x_seq <| x_seq <| x_region <|
      p (yl_move rfl) <| p (yl_len_slice usl_124 rfl) <| p (yl_move rfl) <| x_done <|
      ?_
    replace hF := bs_s hF; obtain ⟨oL4, hLL4, hF⟩ := hF
    refine x_join (fun E w => (Sum.inl (())) = oL4 ∧ St w0 w (ro ρ :: l)) ?_ ?_
    · skip -- L4
      refine x_block ?_
      refine x_loop (fun k_ E w => ∃ (q2 : Int), lp (P_slices_Equal_bool_bool_L4 s10 s21) k_ q2 = some oL4 ∧ E 0 = .slice q5 s10.length c_s10 ∧ E 1 = .slice q6 s21.length c_s21 ∧ E 12 = .int .i64 (s10.length : Int) ∧ E 13 = .int .i64 q2 ∧ St w0 w (ro ρ :: l)) fuel ⟨0, hLL4, rfl, rfl, rfl, rfl, hS⟩ ?_
      rintro kL4 E w ⟨q2, hLL4, q9, q0a, q4, q3, hS⟩
      replace hLL4 := lp_s hLL4; obtain ⟨kL4, obL4, rfl, hFL4, hLL4⟩ := hLL4
      refine x_seq <| x_region <| p (yl_lss q3 q4) <| x_done <|
        x_seq <|
        x_cond_p (q2 < (s10.length : Int)) rfl (fun hc14 => ?_) (fun hc14 => ?_)
      · replace hFL4 := it_t hc14 hFL4
        replace hFL4 := ck_s hFL4; obtain ⟨q0d, hFL4⟩ := hFL4
        replace hFL4 := lv_s hFL4; obtain ⟨x19, hx19, hFL4⟩ := hFL4
        replace hFL4 := ck_s hFL4; obtain ⟨q0e, hFL4⟩ := hFL4
        replace hFL4 := lv_s hFL4; obtain ⟨x23, hx23, hFL4⟩ := hFL4
        refine x_skip <| x_seq <| x_block <| x_seq <|
          x_region <| p (yl_move q3) <| p (yl_assign rfl) <| x_done <|
          x_seq <| x_still mixed (by kernel_rfl) hS <| q (yl_move q9) <| q (yl_move rfl) <|
          q (yix_f sl_124 rfl rfl q7 q0d) <| qa (fun w' hS => at_load one_4 rfl (RdS.getW q7 hS q0d hx19)) <| q (yl_move q0a) <| q (yl_move rfl) <|
          q (yix_f sl_124 rfl rfl q8 q0e) <| qa (fun w' hS => at_load one_4 rfl (RdS.getW q8 hS q0e hx23)) <| q (yneb ub_4 rfl rfl) <|
          q_done fun w' hS => ?_
        refine x_cond (t := !(x19 == x23)) rfl (fun hc24 => ?_) (fun hc24 => ?_)
        · replace hFL4 := it_t hc24 hFL4
          refine x_seq <| x_region <| p (yl_assign rfl) <| x_done <|
            ?_
          have e_ := Option.some.inj (show some _ = some _ from hFL4); subst e_
          have e_ := (show _ = oL4 from hLL4); subst e_
          have e_ := Option.some.inj (show some _ = some _ from hF); subst e_
          exact x_return ⟨_, ⟨_, _, rfl, rfl, rfl⟩, rfl, hS⟩
        · replace hFL4 := it_bf hc24 hFL4
          replace hFL4 := ar_s hFL4; obtain ⟨x25, hx25, hFL4⟩ := hFL4
          refine x_skip <| x_blk <| x_region <| p (yadd q3 rfl hx25) <|
            p (yl_move rfl) <| x_done <|
            ?_
          have e_ := Option.some.inj (show some _ = some _ from hFL4); subst e_
          exact x_inv ⟨kL4, Nat.lt_succ_self _, x25, hLL4, q9, q0a, q4, rfl, hS⟩
      · replace hFL4 := it_f hc14 hFL4
        refine x_exitTo _ rfl <|
          ?_
        have e_ := Option.some.inj (show some _ = some _ from hFL4); subst e_
        exact x_inv ⟨hLL4, hS⟩
    rintro E w ⟨rfl, hS⟩
    refine x_seq <| x_region <| p (yl_assign rfl) <| x_done <|
      ?_
    have e_ := Option.some.inj (show some _ = some _ from hF); subst e_
    exact x_return ⟨_, ⟨_, _, rfl, rfl, rfl⟩, rfl, hS⟩
attribute [irreducible] P_slices_Equal_bool_bool

def P_slices_EqualFunc_bool_bool_bool_bool_L4 (s10 : List (List Bool)) (s21 : List (List Bool)) : Int → Option (Int ⊕ (Unit ⊕ Bool)) := fun q2 =>
  if q2 < (s10.length : Int) then
    ck (inb q2 s10.length) <|
    lv (gt s10 q2) fun q3 =>
    ck (inb q2 s21.length) <|
    lv (gt s21 q2) fun q4 =>
    bd (P_slices_Equal_bool_bool q3 q4) fun q5 =>
    if (!q5) = true then
      some (Sum.inr (Sum.inr false))
    else
      ar (q2 + 1) fun x31 =>
      some (Sum.inl x31)
  else
    some (Sum.inr (Sum.inl ()))
def P_slices_EqualFunc_bool_bool_bool_bool (s10 : List (List Bool)) (s21 : List (List Bool)) : Option Bool :=
  if (s10.length : Int) ≠ (s21.length : Int) then
    some false
  else
    bs (
      lp (P_slices_EqualFunc_bool_bool_bool_bool_L4 s10 s21) fuel 0) (fun y => some y) fun _ =>
    some true
set_option maxHeartbeats 4000000 in
set_option maxRecDepth 100000 in
theorem c_slices_EqualFunc_bool_bool_bool_bool {w0 w : World} {l : List Assn} {ρ : Heap} {q6 : Option Addr} {q0c : Nat} {c_s10 : Nat} {q7 : Option Addr} {q0d : Nat} {c_s21 : Nat} {s10 : List (List Bool)} {s21 : List (List Bool)} {r : Bool} (hF : P_slices_EqualFunc_bool_bool_bool_bool s10 s21 = some r) (q8 : RdS (RpSl RpB) ρ q6 q0c c_s10 s10) (q9 : RdS (RpSl RpB) ρ q7 q0d c_s21 s21) (hS : St w0 w (ro ρ :: l)) :
    Calls Try.prog 60 #[.slice q6 q0c c_s10, .slice q7 q0d c_s21, .func (.func 61) #[] #[]] w fun e w' => e = .returned (.bool r) ∧ St w0 w' (ro ρ :: l) := by
  have e_ := q8.n; subst e_
  have e_ := q9.n; subst e_
  refine enterC Try.func60 rfl 32 rfl (by simp) ?_
  refine x_seq <| x_region <| p (yl_assign rfl) <| x_done <|
    x_seq <| x_seq <| x_region <| p (yl_move rfl) <|
    p (yl_len_slice usl_118 rfl) <| p (yl_move rfl) <| p (yl_len_slice usl_118 rfl) <| p (yl_neq rfl rfl) <|
    x_done <|
    x_cond_p ((s10.length : Int) ≠ (s21.length : Int)) rfl (fun hc14 => ?_) (fun hc14 => ?_)
  · replace hF := it_t hc14 hF
    refine x_seq <| x_region <| p (yl_assign rfl) <| x_done <|
      ?_
    have e_ := Option.some.inj (show some _ = some _ from hF); subst e_
    exact x_return ⟨_, ⟨_, _, rfl, rfl, rfl⟩, rfl, hS⟩
  · replace hF := it_f hc14 hF
    refine x_skip <| x_seq <| x_seq <| x_region <|
      p (yl_move rfl) <| p (yl_len_slice usl_118 rfl) <| p (yl_move rfl) <| x_done <|
      ?_
    replace hF := bs_s hF; obtain ⟨oL4, hLL4, hF⟩ := hF
    refine x_join (fun E w => (Sum.inl (())) = oL4 ∧ St w0 w (ro ρ :: l)) ?_ ?_
    · skip -- L4
      refine x_block ?_
      refine x_loop (fun k_ E w => ∃ (q2 : Int), lp (P_slices_EqualFunc_bool_bool_bool_bool_L4 s10 s21) k_ q2 = some oL4 ∧ E 1 = .slice q7 s21.length c_s21 ∧ E 2 = .func (.func 61) #[] #[] ∧ E 15 = .slice q6 s10.length c_s10 ∧ E 16 = .int .i64 (s10.length : Int) ∧ E 17 = .int .i64 q2 ∧ St w0 w (ro ρ :: l)) fuel ⟨0, hLL4, rfl, rfl, rfl, rfl, rfl, hS⟩ ?_
      rintro kL4 E w ⟨q2, hLL4, q0a, q0b, q4, q5, q3, hS⟩
      replace hLL4 := lp_s hLL4; obtain ⟨kL4, obL4, rfl, hFL4, hLL4⟩ := hLL4
      refine x_seq <| x_region <| p (yl_lss q3 q5) <| x_done <|
        x_seq <|
        x_cond_p (q2 < (s10.length : Int)) rfl (fun hc18 => ?_) (fun hc18 => ?_)
      · replace hFL4 := it_t hc18 hFL4
        replace hFL4 := ck_s hFL4; obtain ⟨q0e, hFL4⟩ := hFL4
        replace hFL4 := lv_s hFL4; obtain ⟨q0s, q0k, hFL4⟩ := hFL4
        have q_ := q8.get q0e; obtain ⟨q0q, q0f, q0l⟩ := q_
        rw [← q0k] at q0f
        obtain ⟨q0t, q0u, q0v, rfl, q0i⟩ := q0f
        have e_ := q0i.n; subst e_
        replace hFL4 := ck_s hFL4; obtain ⟨q0g, hFL4⟩ := hFL4
        replace hFL4 := lv_s hFL4; obtain ⟨q0w, q0m, hFL4⟩ := hFL4
        have q_ := q9.get q0g; obtain ⟨q0r, q0h, q0n⟩ := q_
        rw [← q0m] at q0h
        obtain ⟨q0x, q0y, q0z, rfl, q0j⟩ := q0h
        have e_ := q0j.n; subst e_
        replace hFL4 := bd_s hFL4; obtain ⟨q0p, q0o, hFL4⟩ := hFL4
        refine x_skip <| x_seq <| x_block <| x_seq <|
          x_region <| p (yl_move q3) <| p (yix_f sl_118 q4 q3 q8 q0e) <| pa (at_load one_124 rfl (Elt.ld (j := 0) q0l hS rfl)) <|
          p (yl_assign rfl) <| p (yl_assign rfl) <| x_done <| x_seq <|
          x_region <| p (yl_move q0a) <| p (yl_move rfl) <| p (yix_f sl_118 rfl rfl q9 q0g) <|
          pa (at_load one_124 rfl (Elt.ld (j := 0) q0n hS rfl)) <| p (yl_assign rfl) <| x_done <| x_seq <|
          x_region <| p (yl_move q0b) <| p (yl_move rfl) <| p (yl_move rfl) <|
          ?_
        have hcall := c_slices_Equal_bool_bool q0o q0i q0j hS
        refine o_ccv rfl call_61 (args2 rfl rfl) (hcall) ?_
        rintro e w' ⟨rfl, hS⟩
        refine ⟨_, rfl, ?_⟩
        refine p (yl_not rfl) <| x_done <|
          x_cond (t := !q0p) rfl (fun hc30 => ?_) (fun hc30 => ?_)
        · replace hFL4 := it_t hc30 hFL4
          refine x_seq <| x_region <| p (yl_assign rfl) <| x_done <|
            ?_
          have e_ := Option.some.inj (show some _ = some _ from hFL4); subst e_
          have e_ := (show _ = oL4 from hLL4); subst e_
          have e_ := Option.some.inj (show some _ = some _ from hF); subst e_
          exact x_return ⟨_, ⟨_, _, rfl, rfl, rfl⟩, rfl, hS⟩
        · replace hFL4 := it_bf hc30 hFL4
          replace hFL4 := ar_s hFL4; obtain ⟨x31, hx31, hFL4⟩ := hFL4
          refine x_skip <| x_blk <| x_region <| p (yadd q3 rfl hx31) <|
            p (yl_move rfl) <| x_done <|
            ?_
          have e_ := Option.some.inj (show some _ = some _ from hFL4); subst e_
          exact x_inv ⟨kL4, Nat.lt_succ_self _, x31, hLL4, q0a, q0b, q4, q5, rfl, hS⟩
      · replace hFL4 := it_f hc18 hFL4
        refine x_exitTo _ rfl <|
          ?_
        have e_ := Option.some.inj (show some _ = some _ from hFL4); subst e_
        exact x_inv ⟨hLL4, hS⟩
    rintro E w ⟨rfl, hS⟩
    refine x_seq <| x_region <| p (yl_assign rfl) <| x_done <|
      ?_
    have e_ := Option.some.inj (show some _ = some _ from hF); subst e_
    exact x_return ⟨_, ⟨_, _, rfl, rfl, rfl⟩, rfl, hS⟩
attribute [irreducible] P_slices_EqualFunc_bool_bool_bool_bool

def P_maskkeep4_StreamBack (l_0 : List Int) : Option Bool :=
  bd (P_maskmake_Stream_Config (T_maskmake_Stream.mk l_0 0)) fun q2 =>
  bd (P_stream_Encode q2.1) fun q3 =>
  bd (P_stream_Decode q3.1) fun q4 =>
  bd (P_stream_Encode q4.1) fun q5 =>
  bd (P_maskmake_Stream_Played (T_maskmake_Stream.mk l_0 q2.2) 5 (q2.1.In.length : Int)) fun q6 =>
  bd (P_array_Run q2.1 q6.1) fun q7 =>
  bd (P_array_Run q4.1 q6.1) fun q8 =>
  bd (P_maskkeep4_streams) fun q0b =>
  lv (q0b && (decide (q3.2 = 0))) fun x57 =>
  lv (x57 && (decide (q4.2 = 0))) fun x61 =>
  lv (x61 && (decide (q5.2 = 0))) fun x65 =>
  lv (x65 && (decide (q7.2 = 0))) fun x69 =>
  lv (x69 && (decide (q8.2 = 0))) fun x73 =>
  bd (gd (x73) (P_slices_Equal_byte_byte q3.1 q5.1)) fun q9 =>
  lv (x73 && q9) fun x78 =>
  bd (gd (x78) (P_slices_EqualFunc_bool_bool_bool_bool q7.1 q8.1)) fun q0a =>
  lv (x78 && q0a) fun x83 =>
  some x83
set_option maxHeartbeats 4000000 in
set_option maxRecDepth 100000 in
theorem c_maskkeep4_StreamBack {w0 w : World} {l : List Assn} {ρ : Heap} {q0w : Option Addr} {q1c : Nat} {c_l_0 : Nat} {l_0 : List Int} {r : Bool} (hF : P_maskkeep4_StreamBack l_0 = some r) (q14 : RdS (RpI .i64) ρ q0w q1c c_l_0 l_0) (hS : St w0 w (ro ρ :: l)) :
    Calls Try.prog 11 #[.slice q0w q1c c_l_0] w fun e w' => e = .returned (.bool r) ∧ St w0 w' (ro ρ :: l) := by
  have e_ := q14.n; subst e_
  refine enterC Try.func11 rfl 84 rfl (by simp) ?_
  refine x_seq <| x_region <| p (yl_assign rfl) <| x_done <|
    x_seq <| x_region <| p (yl_move rfl) <| p (v := .agg #[.slice q0w l_0.length c_l_0, .int .i64 0]) (yl_build bld_25 bldf_25 (parts_eq (pt (va := .slice q0w l_0.length c_l_0) rfl pt0)) (by kernel_rfl)) <|
    ?_
  refine o_box (cs := [.slice q0w l_0.length c_l_0, .int .i64 0]) rfl rfl hS (fun b18 w' hS => ?_)
  replace hF := bd_s hF; obtain ⟨q6, q27, hF⟩ := hF
  refine p (yl_assign rfl) <| x_done <| x_seq <| x_region <|
    p (yl_move rfl) <|
    ?_
  have hcall := c_maskmake_Stream_Config q27 q14 ((hS.pull 1).pull 1)
  refine o_cc call_36 (args1 rfl) hcall ?_
  rintro e w' ⟨q1t, q0d, q1k, c_y0_ret_3_2_1, q1d, q0e, q1l, c_y0_ret_4_2_1, q1e, q0f, q1m, c_y0_ret_5_2_1, q1f, rfl, q17, q0g, q0h, q0i, hS⟩
  refine ⟨_, rfl, ?_⟩
  have e_ := St.vec_n hS q0g; subst e_
  have e_ := St.vec_n (hS.pull 1) q0h; subst e_
  have e_ := St.vec_n (hS.pull 2) q0i; subst e_
  refine o_alloc zero_81 hS (fun b4 w' hS => ?_)
  refine o_storeAgg (news := [.int .i64 q6.1.Rows, .int .i64 q6.1.Cols, .int .i64 q6.1.Tracks, .slice q0d q6.1.Tiles.length c_y0_ret_3_2_1, .slice q0e q6.1.In.length c_y0_ret_4_2_1, .slice q0f q6.1.Out.length c_y0_ret_5_2_1]) agg_81 rfl rfl rfl (by simp [over_length]) hS (fun w' hS => ?_)
  replace hF := bd_s hF; obtain ⟨q15, q28, hF⟩ := hF
  refine x_done <| x_seq <| x_region <| pa (v := .agg #[.int .i64 q6.1.Rows, .int .i64 q6.1.Cols, .int .i64 q6.1.Tracks, .slice q0d q6.1.Tiles.length c_y0_ret_3_2_1, .slice q0e q6.1.In.length c_y0_ret_4_2_1, .slice q0f q6.1.Out.length c_y0_ret_5_2_1]) (ld_sub agg_81 rfl rfl rfl hS) <|
    ?_
  have q_ := St.lend ((hS.pull 5).pull 2) q0g; obtain ⟨ρl0, hll0, hlf0, hS0, back0⟩ := q_
  have q_ := St.lend (hS0.pull 2) (q0h.le hll0); obtain ⟨ρl1, hll1, hlf1, hS1, back1⟩ := q_
  have q_ := St.lend (hS1.pull 2) (q0i.le (hll0.trans hll1)); obtain ⟨ρl2, hll2, hlf2, hS2, back2⟩ := q_
  have hcall := c_stream_Encode q28 (hlf0.le (hll1.trans hll2)) (hlf1.le hll2) hlf2 hS2
  refine o_cc call_35 (args1 rfl) hcall ?_
  rintro e w' ⟨q10, q1u, c_y0_ret_3_1, q0y, rfl, q0a, hS⟩
  refine ⟨_, rfl, ?_⟩
  replace hS := back2 (hS.pull 1)
  replace hS := back1 (hS.pull 1)
  replace hS := back0 (hS.pull 1)
  replace q0a : RepL (RpI .u8) q1t q15.1 q0y := RepL.flat (fun h => h) q0a
  have e_ := St.vec_n (hS.pull 4) q0a; subst e_
  refine p (yl_move rfl) <| p (yl_extract rfl rfl) <| p (yl_extract rfl rfl) <| p (yl_assign rfl) <|
    p (yl_assign rfl) <| x_done <| x_seq <| x_region <|
    p (yl_move rfl) <|
    ?_
  have q_ := St.vec_fz ((hS.pull 1).pull 4) q0a; obtain ⟨q2r, q0r, q1g, hS⟩ := q_
  replace hF := bd_s hF; obtain ⟨q2, q29, hF⟩ := hF
  have hcall := c_stream_Decode q29 q1g hS
  refine o_cc call_40 (args1 rfl) hcall ?_
  rintro e w' ⟨q1v, q0j, q1n, c_y0_ret_3_4_1, q1h, q0k, q1o, c_y0_ret_4_4_1, q1i, q0l, q1p, c_y0_ret_5_4_1, q1j, rfl, q0s, q0m, q0n, q0o, hS⟩
  refine ⟨_, rfl, ?_⟩
  have e_ := St.vec_n hS q0m; subst e_
  have e_ := St.vec_n (hS.pull 1) q0n; subst e_
  have e_ := St.vec_n (hS.pull 2) q0o; subst e_
  refine p (yl_move rfl) <| p (yl_extract rfl rfl) <| p (yl_extract rfl rfl) <|
    ?_
  refine o_alloc zero_81 hS (fun b7 w' hS => ?_)
  refine o_storeAgg (news := [.int .i64 q2.1.Rows, .int .i64 q2.1.Cols, .int .i64 q2.1.Tracks, .slice q0j q2.1.Tiles.length c_y0_ret_3_4_1, .slice q0k q2.1.In.length c_y0_ret_4_4_1, .slice q0l q2.1.Out.length c_y0_ret_5_4_1]) agg_81 rfl rfl rfl (by simp [over_length]) hS (fun w' hS => ?_)
  replace hF := bd_s hF; obtain ⟨q16, q2a, hF⟩ := hF
  refine p (yl_assign rfl) <| x_done <| x_seq <| x_region <|
    pa (v := .agg #[.int .i64 q2.1.Rows, .int .i64 q2.1.Cols, .int .i64 q2.1.Tracks, .slice q0j q2.1.Tiles.length c_y0_ret_3_4_1, .slice q0k q2.1.In.length c_y0_ret_4_4_1, .slice q0l q2.1.Out.length c_y0_ret_5_4_1]) (ld_sub agg_81 rfl rfl rfl hS) <|
    ?_
  have q_ := St.lend ((hS.pull 4).pull 2) q0m; obtain ⟨ρl0, hll0, hlf0, hS0, back0⟩ := q_
  have q_ := St.lend (hS0.pull 2) (q0n.le hll0); obtain ⟨ρl1, hll1, hlf1, hS1, back1⟩ := q_
  have q_ := St.lend (hS1.pull 2) (q0o.le (hll0.trans hll1)); obtain ⟨ρl2, hll2, hlf2, hS2, back2⟩ := q_
  have hcall := c_stream_Encode q2a (hlf0.le (hll1.trans hll2)) (hlf1.le hll2) hlf2 hS2
  refine o_cc call_35 (args1 rfl) hcall ?_
  rintro e w' ⟨q11, q1w, c_y0_ret_5_1, q0z, rfl, q0b, hS⟩
  refine ⟨_, rfl, ?_⟩
  replace hS := back2 (hS.pull 1)
  replace hS := back1 (hS.pull 1)
  replace hS := back0 (hS.pull 1)
  replace q0b : RepL (RpI .u8) q1v q16.1 q0z := RepL.flat (fun h => h) q0b
  have e_ := St.vec_n (hS.pull 4) q0b; subst e_
  replace hF := bd_s hF; obtain ⟨q2u, q2b, hF⟩ := hF
  refine p (yl_move rfl) <| p (yl_extract rfl rfl) <| p (yl_extract rfl rfl) <| p (yl_assign rfl) <|
    p (yl_assign rfl) <| x_done <| x_seq <| x_region <|
    p (yl_move rfl) <| p (yl_field0 fld_81_4 rfl) <| pa (at_load one_79 rfl ((hS.pull 9).cell rfl)) <| p (yl_len_slice usl_79 rfl) <|
    ?_
  have hcall := c_maskmake_Stream_Played q2b (q14.le ((q17.trans q0r).trans q0s)) ((hS.pull 1).pull 10)
  refine o_cc call_57 (args3 rfl rfl rfl) hcall ?_
  rintro e w' ⟨q2j, q1x, q1y, c_y0_ret_6_4, q1q, rfl, q0c, q0t, hS⟩
  refine ⟨_, rfl, ?_⟩
  have e_ := St.vec_n hS q0t; subst e_
  refine p (yl_assign rfl) <| x_done <| x_seq <| x_region <|
    pa (v := .agg #[.int .i64 q6.1.Rows, .int .i64 q6.1.Cols, .int .i64 q6.1.Tracks, .slice q0d q6.1.Tiles.length c_y0_ret_3_2_1, .slice q0e q6.1.In.length c_y0_ret_4_2_1, .slice q0f q6.1.Out.length c_y0_ret_5_2_1]) (ld_sub agg_81 rfl rfl rfl (hS.pull 11)) <| p (yl_move rfl) <|
    ?_
  have q_ := St.vec_fz ((hS.pull 2).pull 8) (q0g.le ((q0r.trans q0s).trans q0c)); obtain ⟨q2s, q7, q2c, hS⟩ := q_
  have q_ := St.vec_fz (hS.pull 8) (q0h.le (((q0r.trans q0s).trans q0c).trans q7)); obtain ⟨q2k, q3, q1z, hS⟩ := q_
  have q_ := St.vec_fz (hS.pull 8) (q0i.le ((((q0r.trans q0s).trans q0c).trans q7).trans q3)); obtain ⟨q2l, q4, q20, hS⟩ := q_
  have q_ := St.vec_fz (hS.pull 1) (q0t.le ((q7.trans q3).trans q4)); obtain ⟨q2m, q5, q18, hS⟩ := q_
  replace hF := bd_s hF; obtain ⟨q19, q2d, hF⟩ := hF
  have hcall := c_array_Run q2d (q2c.le ((q3.trans q4).trans q5)) (q1z.le (q4.trans q5)) (q20.le q5) q18 hS
  refine o_cc call_58 (args2 rfl rfl) hcall ?_
  rintro e w' ⟨q2n, q12, q21, c_y0_ret_7_2, q1r, rfl, q0q, q0u, hS⟩
  refine ⟨_, rfl, ?_⟩
  have e_ := St.vec_n hS q0u; subst e_
  refine p (yl_move rfl) <| p (yl_extract rfl rfl) <| p (yl_extract rfl rfl) <| p (yl_assign rfl) <|
    p (yl_assign rfl) <| x_done <| x_seq <| x_region <|
    pa (v := .agg #[.int .i64 q2.1.Rows, .int .i64 q2.1.Cols, .int .i64 q2.1.Tracks, .slice q0j q2.1.Tiles.length c_y0_ret_3_4_1, .slice q0k q2.1.In.length c_y0_ret_4_4_1, .slice q0l q2.1.Out.length c_y0_ret_5_4_1]) (ld_sub agg_81 rfl rfl rfl (hS.pull 7)) <| p (yl_move rfl) <|
    ?_
  have q_ := St.vec_fz ((hS.pull 1).pull 3) (q0m.le (((((q0c.trans q7).trans q3).trans q4).trans q5).trans q0q)); obtain ⟨q2t, q0p, q2e, hS⟩ := q_
  have q_ := St.vec_fz (hS.pull 3) (q0n.le ((((((q0c.trans q7).trans q3).trans q4).trans q5).trans q0q).trans q0p)); obtain ⟨q2o, q8, q22, hS⟩ := q_
  have q_ := St.vec_fz (hS.pull 3) (q0o.le (((((((q0c.trans q7).trans q3).trans q4).trans q5).trans q0q).trans q0p).trans q8)); obtain ⟨q2p, q9, q23, hS⟩ := q_
  replace hF := bd_s hF; obtain ⟨q1a, q2f, hF⟩ := hF
  have hcall := c_array_Run q2f (q2e.le (q8.trans q9)) (q22.le q9) q23 (q18.le (((q0q.trans q0p).trans q8).trans q9)) hS
  refine o_cc call_58 (args2 rfl rfl) hcall ?_
  rintro e w' ⟨q2q, q13, q24, c_y0_ret_8_2, q1s, rfl, q0x, q0v, hS⟩
  refine ⟨_, rfl, ?_⟩
  have e_ := St.vec_n hS q0v; subst e_
  replace hF := bd_s hF; obtain ⟨q1b, q2g, hF⟩ := hF
  refine p (yl_move rfl) <| p (yl_extract rfl rfl) <| p (yl_extract rfl rfl) <| p (yl_assign rfl) <|
    p (yl_assign rfl) <| x_done <| x_seq <| x_region <|
    ?_
  have hcall := c_maskkeep4_streams q2g  (hS.pull 1)
  refine o_cc call_37 args0 ((Calls.mono hcall (fun e w'' h => And.intro h.1 (((((((h.2.pull 6).pull 6).pull 6).pull 6).pull 6).pull 5).pull 6)))) ?_
  rintro e w' ⟨rfl, hS⟩
  refine ⟨_, rfl, ?_⟩
  replace hF := lv_s hF; obtain ⟨x57, hx57, hF⟩ := hF
  replace hF := lv_s hF; obtain ⟨x61, hx61, hF⟩ := hF
  replace hF := lv_s hF; obtain ⟨x65, hx65, hF⟩ := hF
  replace hF := lv_s hF; obtain ⟨x69, hx69, hF⟩ := hF
  replace hF := lv_s hF; obtain ⟨x73, hx73, hF⟩ := hF
  replace hF := bd_s hF; obtain ⟨q2h, q25, hF⟩ := hF
  refine p (v := .bool q1b) (yl_move rfl) <| pg (v := .int .i64 q15.2) 54 (c := q1b) (says_t _) (fun hq => Yl.at (yl_move rfl)) <| pg (v := .bool (decide (q15.2 = 0))) 54 (c := q1b) (says_t _) (fun hq => Yl.at (yl_eql (cv hq) rfl)) <| p (yand' rfl (fun hc => (cv hc)) rfl hx57) <|
    p (yl_move rfl) <| pg (v := .int .i64 q2.2) 58 (c := x57) (says_t _) (fun hq => Yl.at (yl_move rfl)) <| pg (v := .bool (decide (q2.2 = 0))) 58 (c := x57) (says_t _) (fun hq => Yl.at (yl_eql (cv hq) rfl)) <| p (yand' rfl (fun hc => (cv hc)) rfl hx61) <|
    p (yl_move rfl) <| pg (v := .int .i64 q16.2) 62 (c := x61) (says_t _) (fun hq => Yl.at (yl_move rfl)) <| pg (v := .bool (decide (q16.2 = 0))) 62 (c := x61) (says_t _) (fun hq => Yl.at (yl_eql (cv hq) rfl)) <| p (yand' rfl (fun hc => (cv hc)) rfl hx65) <|
    p (yl_move rfl) <| pg (v := .int .i64 q19.2) 66 (c := x65) (says_t _) (fun hq => Yl.at (yl_move rfl)) <| pg (v := .bool (decide (q19.2 = 0))) 66 (c := x65) (says_t _) (fun hq => Yl.at (yl_eql (cv hq) rfl)) <| p (yand' rfl (fun hc => (cv hc)) rfl hx69) <|
    p (yl_move rfl) <| pg (v := .int .i64 q1a.2) 70 (c := x69) (says_t _) (fun hq => Yl.at (yl_move rfl)) <| pg (v := .bool (decide (q1a.2 = 0))) 70 (c := x69) (says_t _) (fun hq => Yl.at (yl_eql (cv hq) rfl)) <| p (yand' rfl (fun hc => (cv hc)) rfl hx73) <|
    p (yl_move rfl) <| pg (v := .slice q10 q15.1.length c_y0_ret_3_1) 74 (c := x73) (says_t _) (fun hq => Yl.at (yl_move rfl)) <| pg (v := .slice q11 q16.1.length c_y0_ret_5_1) 74 (c := x73) (says_t _) (fun hq => Yl.at (yl_move rfl)) <|
    pccg (v := .bool q2h) 74 (c := x73) (says_t _) call_59 (fun hq => (args2 (cv hq) (cv hq))) hS (fun hq => by
      have q_ := St.lend ((hS.pull 1).pull 4) (q0b.le (((((((((q0c.trans q7).trans q3).trans q4).trans q5).trans q0q).trans q0p).trans q8).trans q9).trans q0x)); obtain ⟨ρl0, hll0, hlf0, hS0, back0⟩ := q_
      have hcall := c_slices_Equal_byte_byte (gd_t q25 hq) ((q1g.le ((((((((((q0s.trans q0c).trans q7).trans q3).trans q4).trans q5).trans q0q).trans q0p).trans q8).trans q9).trans q0x)).le hll0) hlf0 hS0
      exact (Calls.mono hcall (fun e w'' h => And.intro h.1 ((((((((back0 h.2).pull 6).pull 6).pull 2).pull 6).pull 6).pull 5).pull 6)))) (fun w' hS => ?_)
  replace hF := lv_s hF; obtain ⟨x78, hx78, hF⟩ := hF
  replace hF := bd_s hF; obtain ⟨q2i, q26, hF⟩ := hF
  refine p (yand' rfl (fun hc => (cv hc)) rfl hx78) <| p (yl_move rfl) <| pg (v := .slice q12 q19.1.length c_y0_ret_7_2) 79 (c := x78) (says_t _) (fun hq => Yl.at (yl_move rfl)) <| pg (v := .slice q13 q1a.1.length c_y0_ret_8_2) 79 (c := x78) (says_t _) (fun hq => Yl.at (yl_move rfl)) <|
    pccg (v := .bool q2i) 79 (c := x78) (says_t _) call_60 (fun hq => (args3 (cv hq) (cv hq) rfl)) hS (fun hq => by
      have q_ := St.lend ((hS.pull 1).pull 2) (q0u.le (((q0p.trans q8).trans q9).trans q0x)); obtain ⟨ρl0, hll0, hlf0, hS0, back0⟩ := q_
      have q_ := St.lend (hS0.pull 1) (q0v.le hll0); obtain ⟨ρl1, hll1, hlf1, hS1, back1⟩ := q_
      have hcall := c_slices_EqualFunc_bool_bool_bool_bool (gd_t q26 hq) (hlf0.le hll1) hlf1 hS1
      exact (Calls.mono hcall (fun e w'' h => And.intro h.1 ((((((((back0 ((back1 h.2).pull 1)).pull 6).pull 6).pull 6).pull 6).pull 4).pull 5).pull 6)))) (fun w' hS => ?_)
  replace hF := lv_s hF; obtain ⟨x83, hx83, hF⟩ := hF
  refine p (yand' rfl (fun hc => (cv hc)) rfl hx83) <| p (yl_assign rfl) <| x_done <|
    ?_
  have e_ := Option.some.inj (show some _ = some _ from hF); subst e_
  exact x_return ⟨_, ⟨_, _, rfl, rfl, rfl⟩, rfl, (ro_back0 ((((((((((((q17.trans q0r).trans q0s).trans q0c).trans q7).trans q3).trans q4).trans q5).trans q0q).trans q0p).trans q8).trans q9).trans q0x) ((((((hS.drop.pull 1).drop.pull 1).drop.pull 1).drop.pull 1).drop.pull 1).drop))⟩
attribute [irreducible] P_maskkeep4_StreamBack


end Go.Proofs.Ytnooiajahmichaa.X
