/- Layouts of a stream, and rules.Check. Plain. -/
import Derived.Test.YtlolchgeedegdaaDoorKA
namespace Go.Proofs.YtlolchgeedegdaaDoor.X
open Go Go.RowKit
set_option linter.unusedVariables false
set_option linter.unusedSimpArgs false
set_option linter.unusedSectionVars false
structure WireN (W H Ly N : Int) (w : T_rules_Wire) : Prop where
  net : 0 ≤ w.Net ∧ w.Net < N
  layer : 0 ≤ w.Layer ∧ w.Layer < Ly
  x : 0 ≤ w.X0 ∧ w.X0 ≤ w.X1 ∧ w.X1 < W
  y : 0 ≤ w.Y0 ∧ w.Y0 ≤ w.Y1 ∧ w.Y1 < H
  even : Int.tmod w.Layer 2 = 0 → w.Y0 = w.Y1
  odd : Int.tmod w.Layer 2 ≠ 0 → w.X0 = w.X1
structure ViaN (W H Ly N : Int) (w : T_rules_Via) : Prop where
  net : 0 ≤ w.Net ∧ w.Net < N
  layer : 0 ≤ w.Layer ∧ w.Layer ≤ Ly - 2
  x : 0 ≤ w.X ∧ w.X < W
  y : 0 ≤ w.Y ∧ w.Y < H
structure PinN (W H N : Int) (p : T_rules_Pin) : Prop where
  net : 0 ≤ p.Net ∧ p.Net < N
  x : 0 ≤ p.X ∧ p.X < W
  y : 0 ≤ p.Y ∧ p.Y < H
  size : 0 ≤ p.Size ∧ p.Size ≤ 5
  drive : p.Drive = true → p.Size = 0
structure WallN (W H Ly : Int) (w : T_floor_Wall) : Prop where
  layer : 0 ≤ w.Layer ∧ w.Layer < Ly
  x : 0 ≤ w.X0 ∧ w.X0 ≤ w.X1 ∧ w.X1 < W
  y : 0 ≤ w.Y0 ∧ w.Y0 ≤ w.Y1 ∧ w.Y1 < H
structure LayN (l : T_rules_Layout) : Prop where
  W : 4 ≤ l.W ∧ l.W ≤ 10
  H : 4 ≤ l.H ∧ l.H ≤ 10
  Ly : 1 ≤ l.Layers ∧ l.Layers ≤ 4
  N : 1 ≤ l.Nets ∧ l.Nets ≤ 4
  wireL : l.Wires.length ≤ 8
  wire : All (fun _ w => WireN l.W l.H l.Layers l.Nets w) l.Wires
  viaL : l.Vias.length ≤ 5
  via : All (fun _ w => ViaN l.W l.H l.Layers l.Nets w) l.Vias
  pinL : l.Pins.length ≤ 6
  pin : All (fun _ p => PinN l.W l.H l.Nets p) l.Pins
  wallL : l.Walls.length ≤ 2
  wall : All (fun _ w => WallN l.W l.H l.Layers w) l.Walls
theorem wire_ok {L : List Int} (hL : Strm L) {k : Int} (hk : Few (k + 10)) (hk0 : 0 ≤ k) {l : T_rules_Layout} (hW : 4 ≤ l.W ∧ l.W ≤ 10) (hH : 4 ≤ l.H ∧ l.H ≤ 10) (hY : 1 ≤ l.Layers ∧ l.Layers ≤ 4) (hN : 1 ≤ l.Nets ∧ l.Nets ≤ 4) :
    Ok (P_maskmake_Stream_wire (T_maskmake_Stream.mk L k) l) (fun r => WireN l.W l.H l.Layers l.Nets r.1 ∧ r.2 = k + 5) := by
  unfold P_maskmake_Stream_wire
  refine ok_bd (hL.next (by omega) (by omega)) ?_
  rintro ⟨a, k1⟩ ⟨a0, a1, -, rfl⟩
  have a1 := a1 (by omega)
  refine ok_bd (hL.next (by simp only; omega) (by omega)) ?_
  rintro ⟨b, k2⟩ ⟨b0, b1, -, rfl⟩
  have b1 := b1 (by omega)
  refine ok_bd (hL.next (by simp only; omega) (by omega)) ?_
  rintro ⟨c, k3⟩ ⟨c0, c1, -, rfl⟩
  have c1 := c1 (by omega)
  refine ok_bd (hL.next (by simp only; omega) (by omega)) ?_
  rintro ⟨d, k4⟩ ⟨d0, d1, -, rfl⟩
  have d1 := d1 (by omega)
  simp only at a0 a1 b0 b1 c0 c1 d0 d1
  refine ok_ck (by omega) (ok_lv ?_)
  by_cases e : Int.tmod b 2 = 0
  · refine ok_bd (R := fun r => (c ≤ r.1 ∧ r.1 < l.W) ∧ r.2.1 = d ∧ r.2.2 = k + 5) (ok_t e (ok_ar (by omega) (ok_bd (hL.range (by simp only; omega) (by simp only; omega) (by omega) (by simp only; omega)) ?_))) ?_
    · rintro ⟨x, k5⟩ ⟨x0, x1, rfl⟩
      simp only at x0 x1
      exact ok_some ⟨by simp only; omega, rfl, by simp only; omega⟩
    · rintro ⟨x, y, k5⟩ ⟨h1, h2, h3⟩
      simp only at h1 h2 h3
      subst h2
      exact ok_some ⟨⟨⟨a0, a1⟩, ⟨b0, b1⟩, ⟨c0, h1.1, h1.2⟩, ⟨d0, Int.le_refl _, d1⟩, fun _ => rfl, fun q => absurd e q⟩, h3⟩
  · refine ok_bd (R := fun r => r.1 = c ∧ (d ≤ r.2.1 ∧ r.2.1 < l.H) ∧ r.2.2 = k + 5) (ok_f e (ok_ar (by omega) (ok_bd (hL.range (by simp only; omega) (by simp only; omega) (by omega) (by simp only; omega)) ?_))) ?_
    · rintro ⟨x, k5⟩ ⟨x0, x1, rfl⟩
      simp only at x0 x1
      exact ok_some ⟨rfl, by simp only; omega, by simp only; omega⟩
    · rintro ⟨x, y, k5⟩ ⟨h1, h2, h3⟩
      simp only at h1 h2 h3
      subst h1
      exact ok_some ⟨⟨⟨a0, a1⟩, ⟨b0, b1⟩, ⟨c0, Int.le_refl _, c1⟩, ⟨d0, h2.1, h2.2⟩, fun q => absurd q e, fun _ => rfl⟩, h3⟩
theorem pick5_ok {L : List Int} (hL : Strm L) {k : Int} (hk : Few k) : Ok (P_maskmake_Stream_Pick (T_maskmake_Stream.mk L k) ([0, 1, 1, 2, 5] : List Int)) (fun r => (0 ≤ r.1 ∧ r.1 ≤ 5) ∧ r.2 = k + 1) := by
  unfold P_maskmake_Stream_Pick
  refine ok_bd (hL.next hk (by simp)) ?_
  rintro ⟨i, k2⟩ ⟨i0, i1, -, rfl⟩
  have i1 := i1 (by simp)
  simp only at i0 i1
  refine ok_ck ⟨i0, i1⟩ (ok_lv (ok_some ⟨?_, rfl⟩))
  have hm := gt_mem (xs := ([0, 1, 1, 2, 5] : List Int)) ⟨i0, i1⟩
  simp only [List.mem_cons, List.not_mem_nil, or_false] at hm
  simp only
  omega
theorem Layout_ok {L : List Int} (hL : Strm L) {k : Int} (hk : Few (k + 5000)) (hk0 : 0 ≤ k) : Ok (P_maskmake_Stream_Layout (T_maskmake_Stream.mk L k)) (fun r => LayN r.1 ∧ k ≤ r.2 ∧ r.2 ≤ k + 500) := by
  unfold P_maskmake_Stream_Layout
  refine ok_bd (hL.range (by omega) (by omega) (by omega) (by omega)) ?_
  rintro ⟨W, k1⟩ ⟨w0, w1, rfl⟩
  refine ok_bd (hL.range (by simp only; omega) (by omega) (by omega) (by omega)) ?_
  rintro ⟨H, k1⟩ ⟨h0, h1, rfl⟩
  refine ok_bd (hL.range (by simp only; omega) (by omega) (by omega) (by omega)) ?_
  rintro ⟨Y, k1⟩ ⟨y0, y1, rfl⟩
  refine ok_bd (hL.range (by simp only; omega) (by omega) (by omega) (by omega)) ?_
  rintro ⟨N, k1⟩ ⟨n0, n1, rfl⟩
  simp only at w0 w1 h0 h1 y0 y1 n0 n1
  have hW : 4 ≤ W ∧ W ≤ 10 := ⟨w0, w1⟩
  have hH : 4 ≤ H ∧ H ≤ 10 := ⟨h0, h1⟩
  have hY : 1 ≤ Y ∧ Y ≤ 4 := ⟨y0, y1⟩
  have hN : 1 ≤ N ∧ N ≤ 4 := ⟨n0, n1⟩
  refine ok_bd (hL.next (by simp only; omega) (by omega)) ?_
  rintro ⟨m, k2⟩ ⟨m0, m1, -, rfl⟩
  have m1 := m1 (by omega)
  simp only at m0 m1
  refine ok_bd (R := fun r => (k ≤ r.1 ∧ r.1 ≤ k + 60) ∧ r.2.length ≤ 8 ∧ All (fun _ w => WireN W H Y N w) r.2) ?_ ?_
  · refine ok_lp (fun s => (0 ≤ s.1 ∧ s.1 ≤ m) ∧ (k ≤ s.2.1 ∧ s.2.1 ≤ k + 5 + 5 * s.1) ∧ (s.2.2.length : Int) = s.1 ∧ All (fun _ w => WireN W H Y N w) s.2.2) (fun s => (m - s.1).toNat) ⟨⟨by simp, by simp only; omega⟩, by simp only; omega, by simp, All.nil⟩ (by simp only; omega) ?_
    rintro ⟨y, q, xs⟩ ⟨⟨z0, z1⟩, z2, z3, z4⟩
    simp only at z0 z1 z2 z3 z4
    unfold P_maskmake_Stream_Layout_L3
    dsimp only
    refine ok_ite (fun hlt => ?_) fun hge => ok_some ⟨by simp only; omega, by simp only; omega, z4⟩
    refine ok_bd (wire_ok hL (by omega) (by omega) hW hH hY hN) ?_
    rintro ⟨w, q2⟩ ⟨hw, rfl⟩
    exact ok_lv (ok_ck (by simp only [apOk, List.length_append, List.length_singleton]; omega) (ok_ar (by omega) (ok_some ⟨⟨⟨by simp only; omega, by simp only; omega⟩, by simp only; omega, by simp only [List.length_append, List.length_singleton]; omega, z4.snoc hw⟩, by simp only; omega⟩)))
  rintro ⟨k3, ws⟩ ⟨p1, p2, hws⟩
  simp only at p1 p2 hws
  refine ok_bd (hL.next (by omega) (by omega)) ?_
  rintro ⟨m, k4⟩ ⟨m0, m1, -, rfl⟩
  have m1 := m1 (by omega)
  simp only at m0 m1
  refine ok_bd (R := fun r => (k ≤ r.1 ∧ r.1 ≤ k + 200) ∧ r.2.length ≤ 5 ∧ All (fun _ w => ViaN W H Y N w) r.2) ?_ ?_
  · refine ok_lp (fun s => (0 ≤ s.1 ∧ s.1 ≤ m) ∧ (k ≤ s.2.1 ∧ s.2.1 ≤ k + 61 + 20 * s.1) ∧ (s.2.2.length : Int) ≤ s.1 ∧ All (fun _ w => ViaN W H Y N w) s.2.2) (fun s => (m - s.1).toNat) ⟨⟨by simp, by simp only; omega⟩, by simp only; omega, by simp, All.nil⟩ (by simp only; omega) ?_
    rintro ⟨y, q, xs⟩ ⟨⟨z0, z1⟩, z2, z3, z4⟩
    simp only at z0 z1 z2 z3 z4
    unfold P_maskmake_Stream_Layout_L7
    dsimp only
    refine ok_ite (fun hlt => ?_) fun hge => ok_some ⟨by simp only; omega, by simp only; omega, z4⟩
    refine ok_bd (R := fun r => (q ≤ r.1 ∧ r.1 ≤ q + 20) ∧ (r.2.length : Int) ≤ y + 1 ∧ All (fun _ w => ViaN W H Y N w) r.2) (ok_ite (fun hY2 => ?_) fun _ => ok_some ⟨by simp only; omega, by simp only; omega, z4⟩) ?_
    · refine ok_bd (hL.next (by omega) (by omega)) ?_
      rintro ⟨a, q1⟩ ⟨a0, a1, -, rfl⟩
      have a1 := a1 (by omega)
      refine ok_ar (by omega) (ok_bd (hL.next (by simp only; omega) (by omega)) ?_)
      rintro ⟨b, q1⟩ ⟨b0, b1, -, rfl⟩
      have b1 := b1 (by omega)
      refine ok_bd (hL.next (by simp only; omega) (by omega)) ?_
      rintro ⟨c, q1⟩ ⟨c0, c1, -, rfl⟩
      have c1 := c1 (by omega)
      refine ok_bd (hL.next (by simp only; omega) (by omega)) ?_
      rintro ⟨d, q1⟩ ⟨d0, d1, -, rfl⟩
      have d1 := d1 (by omega)
      simp only at a0 a1 b0 b1 c0 c1 d0 d1
      refine ok_bd (R := fun r => (r.1 = true → 0 < ws.length) ∧ q + 4 ≤ r.2 ∧ r.2 ≤ q + 5) (ok_ite (fun hp => ?_) fun hp => ok_some ⟨by simp, by simp only; omega, by simp only; omega⟩) ?_
      · refine ok_bd (hL.next (by simp only; omega) (by omega)) ?_
        rintro ⟨e, q1⟩ ⟨-, -, -, rfl⟩
        have hp := of_decide_eq_true hp
        exact ok_some ⟨fun _ => by omega, by simp only; omega, by simp only; omega⟩
      rintro ⟨t, q2⟩ ⟨u1, u2, u3⟩
      simp only at u1 u2 u3
      refine ok_bd (R := fun r => (q ≤ r.1 ∧ r.1 ≤ q + 20) ∧ ViaN W H Y N ⟨r.2.1, r.2.2.1, r.2.2.2.1, r.2.2.2.2⟩) (ok_ite (fun ht => ?_) fun _ => ok_some ⟨by simp only; omega, ⟨⟨a0, a1⟩, ⟨b0, by simp only; omega⟩, ⟨c0, c1⟩, ⟨d0, d1⟩⟩⟩) ?_
      · have hpos := u1 ht
        refine ok_bd (hL.next (by simp only; omega) (by omega)) ?_
        rintro ⟨i, q1⟩ ⟨i0, i1, -, rfl⟩
        have i1 := i1 (by omega)
        simp only at i0 i1
        have hw := hws i ⟨i0, i1⟩
        have x := hw.x
        have yy := hw.y
        have nn := hw.net
        have ly := hw.layer
        dsimp only
        refine ok_ck ⟨i0, i1⟩ (ok_lv (ok_bd (hL.range (by omega) (by omega) (by omega) (by omega)) ?_))
        rintro ⟨xx, q1⟩ ⟨x0, x1, rfl⟩
        dsimp only at x0 x1
        dsimp only
        refine ok_bd (hL.range (by omega) (by omega) (by omega) (by omega)) ?_
        rintro ⟨yv, q1⟩ ⟨v0, v1, rfl⟩
        refine ok_bd (hL.next (by simp only; omega) (by omega)) ?_
        rintro ⟨j, q1⟩ ⟨j0, j1, -, rfl⟩
        have j1 := j1 (by omega)
        dsimp only at v0 v1 j0 j1
        dsimp only
        exact ok_ar (by omega) (ok_ar (by omega) (ok_lv (ok_lv (ok_some ⟨by simp only; omega, ⟨nn, ⟨by simp only; omega, by simp only; omega⟩, ⟨by simp only; omega, by simp only; omega⟩, ⟨by simp only; omega, by simp only; omega⟩⟩⟩))))
      rintro ⟨q3, r1, r2, r3, r4⟩ ⟨v1, v2⟩
      simp only at v1 v2
      exact ok_lv (ok_ck (by simp only [apOk, List.length_append, List.length_singleton]; omega) (ok_some ⟨v1, by simp only [List.length_append, List.length_singleton]; omega, z4.snoc v2⟩))
    rintro ⟨q3, vs⟩ ⟨v1, v2, v3⟩
    simp only at v1 v2 v3
    exact ok_ar (by omega) (ok_some ⟨⟨⟨by simp only; omega, by simp only; omega⟩, by simp only; omega, by simp only; omega, v3⟩, by simp only; omega⟩)
  rintro ⟨k5, vs⟩ ⟨p3, p4, hvs⟩
  simp only at p3 p4 hvs
  refine ok_bd (hL.next (by omega) (by omega)) ?_
  rintro ⟨m, k6⟩ ⟨m0, m1, -, rfl⟩
  have m1 := m1 (by omega)
  simp only at m0 m1
  refine ok_bd (R := fun r => (k ≤ r.1 ∧ r.1 ≤ k + 300) ∧ r.2.length ≤ 6 ∧ All (fun _ p => PinN W H N p) r.2) ?_ ?_
  · refine ok_lp (fun s => (0 ≤ s.1 ∧ s.1 ≤ m) ∧ (k ≤ s.2.1 ∧ s.2.1 ≤ k + 201 + 10 * s.1) ∧ (s.2.2.length : Int) = s.1 ∧ All (fun _ p => PinN W H N p) s.2.2) (fun s => (m - s.1).toNat) ⟨⟨by simp, by simp only; omega⟩, by simp only; omega, by simp, All.nil⟩ (by simp only; omega) ?_
    rintro ⟨y, q, xs⟩ ⟨⟨z0, z1⟩, z2, z3, z4⟩
    simp only at z0 z1 z2 z3 z4
    unfold P_maskmake_Stream_Layout_L17
    dsimp only
    refine ok_ite (fun hlt => ?_) fun hge => ok_some ⟨by simp only; omega, by simp only; omega, z4⟩
    refine ok_bd (hL.next (by omega) (by omega)) ?_
    rintro ⟨a, q1⟩ ⟨a0, a1, -, rfl⟩
    have a1 := a1 (by omega)
    refine ok_bd (hL.next (by simp only; omega) (by omega)) ?_
    rintro ⟨b, q1⟩ ⟨b0, b1, -, rfl⟩
    have b1 := b1 (by omega)
    refine ok_bd (hL.next (by simp only; omega) (by omega)) ?_
    rintro ⟨c, q1⟩ ⟨c0, c1, -, rfl⟩
    have c1 := c1 (by omega)
    simp only at a0 a1 b0 b1 c0 c1
    refine ok_bd (hL.flip (by simp only; omega) (by omega)) ?_
    rintro ⟨fl, q1⟩ hq
    simp only at hq
    subst hq
    refine ok_bd (R := fun r => (q ≤ r.1 ∧ r.1 ≤ q + 5) ∧ (0 ≤ r.2 ∧ r.2 ≤ 5) ∧ (fl = true → r.2 = 0)) (ok_ite (fun hf => ?_) fun hf => ok_some ⟨by simp only; omega, by simp only; omega, fun _ => rfl⟩) ?_
    · refine ok_bd (pick5_ok hL (by simp only; omega)) ?_
      rintro ⟨sz, q2⟩ ⟨hsz, rfl⟩
      simp only at hsz
      exact ok_some ⟨by simp only; omega, hsz, fun e => by simp [e] at hf⟩
    rintro ⟨q2, sz⟩ ⟨u1, u2, u3⟩
    simp only at u1 u2 u3
    exact ok_lv (ok_ck (by simp only [apOk, List.length_append, List.length_singleton]; omega) (ok_ar (by omega) (ok_some ⟨⟨⟨by simp only; omega, by simp only; omega⟩, by simp only; omega, by simp only [List.length_append, List.length_singleton]; omega, z4.snoc ⟨⟨a0, a1⟩, ⟨b0, b1⟩, ⟨c0, c1⟩, u2, u3⟩⟩, by simp only; omega⟩)))
  rintro ⟨k7, ps⟩ ⟨p5, p6, hps⟩
  simp only at p5 p6 hps
  refine ok_bd (hL.next (by omega) (by omega)) ?_
  rintro ⟨m, k8⟩ ⟨m0, m1, -, rfl⟩
  have m1 := m1 (by omega)
  simp only at m0 m1
  refine ok_bd (R := fun r => (k ≤ r.2 ∧ r.2 ≤ k + 400) ∧ r.1.length ≤ 2 ∧ All (fun _ w => WallN W H Y w) r.1) ?_ ?_
  · refine ok_lp (fun s => (0 ≤ s.1 ∧ s.1 ≤ m) ∧ (k ≤ s.2.1 ∧ s.2.1 ≤ k + 301 + 10 * s.1) ∧ (s.2.2.length : Int) = s.1 ∧ All (fun _ w => WallN W H Y w) s.2.2) (fun s => (m - s.1).toNat) ⟨⟨by simp, by simp only; omega⟩, by simp only; omega, by simp, All.nil⟩ (by simp only; omega) ?_
    rintro ⟨y, q, xs⟩ ⟨⟨z0, z1⟩, z2, z3, z4⟩
    simp only at z0 z1 z2 z3 z4
    unfold P_maskmake_Stream_Layout_L24
    dsimp only
    refine ok_ite (fun hlt => ?_) fun hge => ok_some ⟨by simp only; omega, by simp only; omega, z4⟩
    refine ok_bd (hL.next (by omega) (by omega)) ?_
    rintro ⟨a, q1⟩ ⟨a0, a1, -, rfl⟩
    have a1 := a1 (by omega)
    refine ok_bd (hL.next (by simp only; omega) (by omega)) ?_
    rintro ⟨b, q1⟩ ⟨b0, b1, -, rfl⟩
    have b1 := b1 (by omega)
    refine ok_bd (hL.next (by simp only; omega) (by omega)) ?_
    rintro ⟨c, q1⟩ ⟨c0, c1, -, rfl⟩
    have c1 := c1 (by omega)
    simp only at a0 a1 b0 b1 c0 c1
    refine ok_ar (by omega) (ok_bd (hL.next (by simp only; omega) (by omega)) ?_)
    rintro ⟨d, q1⟩ ⟨d0, d1, -, rfl⟩
    have d1 := d1 (by omega)
    simp only at d0 d1
    refine ok_ar (by omega) (ok_lv (ok_ar (by omega) (ok_bd (hL.next (by simp only; omega) (by omega)) ?_)))
    rintro ⟨e, q1⟩ ⟨e0, e1, -, rfl⟩
    have e1 := e1 (by omega)
    simp only at e0 e1
    exact ok_ar (by omega) (ok_lv (ok_lv (ok_ck (by simp only [apOk, List.length_append, List.length_singleton]; omega) (ok_ar (by omega) (ok_some ⟨⟨⟨by simp only; omega, by simp only; omega⟩, by simp only; omega, by simp only [List.length_append, List.length_singleton]; omega, z4.snoc ⟨⟨c0, c1⟩, ⟨a0, by simp only; omega, by simp only; omega⟩, ⟨b0, by simp only; omega, by simp only; omega⟩⟩⟩, by simp only; omega⟩)))))
  rintro ⟨wl, k9⟩ ⟨p7, p8, hwl⟩
  simp only at p7 p8 hwl
  exact ok_some ⟨⟨hW, hH, hY, hN, p2, hws, p4, hvs, p6, hps, p8, hwl⟩, by simp only; omega, by simp only; omega⟩
theorem within_ok {n a b : Int} (h : a ≤ n ∧ n ≤ b) : Ok (P_rules_within n a b) (fun r => r = true) := by
  unfold P_rules_within
  exact ok_lv (ok_some (by simp [h.1, h.2]))
theorem ok_wi {β : Type} {n a b : Int} {k : Bool → Option β} {Q : β → Prop} (h : a ≤ n ∧ n ≤ b) (hk : Ok (k true) Q) : Ok (bd (P_rules_within n a b) k) Q := ok_bd (within_ok h) (by rintro _ rfl; exact hk)
theorem ok_gw {β : Type} {n a b : Int} {q : Bool} {k : Bool → Option β} {Q : β → Prop} (hq : q = true) (h : a ≤ n ∧ n ≤ b) (hk : Ok (k true) Q) : Ok (bd (gd q (P_rules_within n a b)) k) Q := by
  subst hq
  exact ok_bd (within_ok h) (by rintro _ rfl; exact hk)
theorem checkWire_ok {l : T_rules_Layout} (hl : LayN l) {w : T_rules_Wire} (h : WireN l.W l.H l.Layers l.Nets w) : Ok (P_rules_checkWire l w) (fun r => r = 0) := by
  have a := hl.W
  have b := hl.H
  have c := hl.Ly
  have d := hl.N
  have e := h.net
  have f := h.layer
  have g := h.x
  have i := h.y
  unfold P_rules_checkWire
  refine ok_ar (by omega) (ok_wi ⟨by omega, by omega⟩ (ok_f (by simp) (ok_ar (by omega) (ok_wi ⟨by omega, by omega⟩ (ok_ck (fun _ => by omega) (ok_lv (ok_gw rfl ⟨by omega, by omega⟩ (ok_lv (ok_ck (fun _ => by omega) (ok_lv (ok_gw rfl ⟨by omega, by omega⟩ (ok_lv (ok_ck (fun _ => by omega) (ok_lv (ok_gw rfl ⟨by omega, by omega⟩ (ok_lv (ok_ck (fun _ => by omega) (ok_lv (ok_gw rfl ⟨by omega, by omega⟩ (ok_lv (ok_f (by simp) ?_)))))))))))))))))))))
  refine ok_ck (by omega) (ok_lv (ok_lv (ok_ck (fun _ => by omega) (ok_lv (ok_lv (ok_lv (ok_f ?_ (ok_some rfl))))))))
  have h1 := h.even
  have h2 := h.odd
  simp only [Bool.or_eq_true, Bool.and_eq_true, decide_eq_true_eq]
  rintro (⟨q1, q2⟩ | ⟨q1, q2⟩)
  · exact q2 (h1 q1)
  · exact q2 (h2 (by omega))
theorem RCheck_ok {l : T_rules_Layout} (hl : LayN l) : Ok (P_rules_Check l) (fun r => r = 0) := by
  have a := hl.W
  have b := hl.H
  have c := hl.Ly
  have d := hl.N
  have e1 := hl.wireL
  have e2 := hl.viaL
  have e3 := hl.pinL
  have e4 := hl.wallL
  unfold P_rules_Check
  refine ok_wi ⟨by omega, by omega⟩ (ok_gw rfl ⟨by omega, by omega⟩ (ok_lv (ok_gw rfl ⟨by omega, by omega⟩ (ok_lv (ok_gw rfl ⟨by omega, by omega⟩ (ok_lv (ok_f (by simp) (ok_lv (ok_lv (ok_lv (ok_f (by simp only [Bool.or_eq_true, decide_eq_true_eq]; omega) ?_)))))))))))
  refine ok_bs1 (R := fun r => r ≤ 1000) ?_ fun pts hpts => ok_bs1 (R := fun _ => True) ?_ fun _ _ => ok_bs1 (R := fun _ => True) ?_ fun _ _ => ok_bs1 (R := fun _ => True) ?_ fun _ _ => ok_f (by omega) (ok_some rfl)
  · refine ok_lp (fun s => (0 ≤ s.2 ∧ s.2 ≤ l.Wires.length) ∧ 0 ≤ s.1 ∧ s.1 ≤ 30 * s.2) (fun s => ((l.Wires.length : Int) - s.2).toNat) ⟨⟨by simp, by simp only; omega⟩, by simp, by simp⟩ (by simp only; omega) ?_
    rintro ⟨p, y⟩ ⟨⟨y0, y1⟩, y2, y3⟩
    simp only at y0 y1 y2 y3
    unfold P_rules_Check_L7
    dsimp only
    refine ok_ite (fun hlt => ?_) fun hge => ok_some ⟨_, rfl, by omega⟩
    have hw := hl.wire y ⟨y0, hlt⟩
    have g := hw.x
    have i := hw.y
    refine ok_ck ⟨y0, hlt⟩ (ok_lv (ok_bd (checkWire_ok hl hw) ?_))
    rintro _ rfl
    exact ok_f (by simp) (ok_ar (by omega) (ok_ar (by omega) (ok_ar (by omega) (ok_ar (by omega) (ok_ar (by omega) (ok_ar (by omega) (ok_some ⟨⟨⟨by simp only; omega, by simp only; omega⟩, by simp only; omega, by simp only; omega⟩, by simp only; omega⟩)))))))
  · refine ok_lp (fun y => 0 ≤ y ∧ y ≤ l.Vias.length) (fun y => ((l.Vias.length : Int) - y).toNat) ⟨by omega, by omega⟩ (by omega) ?_
    rintro y ⟨y0, y1⟩
    unfold P_rules_Check_L15
    refine ok_ite (fun hlt => ?_) fun hge => ok_some ⟨(), rfl, trivial⟩
    have hw := hl.via y ⟨y0, hlt⟩
    have e := hw.net
    have f := hw.layer
    have g := hw.x
    have i := hw.y
    exact ok_ck ⟨y0, hlt⟩ (ok_lv (ok_ar (by omega) (ok_wi ⟨by omega, by omega⟩ (ok_f (by simp) (ok_ar (by omega) (ok_wi ⟨by omega, by omega⟩ (ok_ck (fun _ => by omega) (ok_lv (ok_gw rfl ⟨by omega, by omega⟩ (ok_lv (ok_ck (fun _ => by omega) (ok_lv (ok_gw rfl ⟨by omega, by omega⟩ (ok_lv (ok_f (by simp) (ok_ar (by omega) (ok_some ⟨⟨by omega, by omega⟩, by omega⟩)))))))))))))))))
  · refine ok_lp (fun y => 0 ≤ y ∧ y ≤ l.Pins.length) (fun y => ((l.Pins.length : Int) - y).toNat) ⟨by omega, by omega⟩ (by omega) ?_
    rintro y ⟨y0, y1⟩
    unfold P_rules_Check_L23
    refine ok_ite (fun hlt => ?_) fun hge => ok_some ⟨(), rfl, trivial⟩
    have hw := hl.pin y ⟨y0, hlt⟩
    have e := hw.net
    have f := hw.size
    have g := hw.x
    have i := hw.y
    refine ok_ck ⟨y0, hlt⟩ (ok_lv (ok_ar (by omega) (ok_wi ⟨by omega, by omega⟩ (ok_f (by simp) (ok_ar (by omega) (ok_wi ⟨by omega, by omega⟩ (ok_ck (fun _ => by omega) (ok_lv (ok_gw rfl ⟨by omega, by omega⟩ (ok_lv (ok_gw rfl ⟨by omega, by omega⟩ (ok_lv (ok_lv (ok_lv (ok_f ?_ (ok_ar (by omega) (ok_some ⟨⟨by omega, by omega⟩, by omega⟩)))))))))))))))))
    simp only [Bool.not_true, Bool.or_self, Bool.false_or, Bool.and_eq_true, decide_eq_true_eq]
    rintro ⟨q1, q2⟩
    have := hw.drive q1
    omega
  · refine ok_lp (fun y => 0 ≤ y ∧ y ≤ l.Walls.length) (fun y => ((l.Walls.length : Int) - y).toNat) ⟨by omega, by omega⟩ (by omega) ?_
    rintro y ⟨y0, y1⟩
    unfold P_rules_Check_L31
    refine ok_ite (fun hlt => ?_) fun hge => ok_some ⟨(), rfl, trivial⟩
    have hw := hl.wall y ⟨y0, hlt⟩
    have f := hw.layer
    have g := hw.x
    have i := hw.y
    exact ok_ck ⟨y0, hlt⟩ (ok_lv (ok_ar (by omega) (ok_wi ⟨by omega, by omega⟩ (ok_ck (fun _ => by omega) (ok_lv (ok_gw rfl ⟨by omega, by omega⟩ (ok_lv (ok_ck (fun _ => by omega) (ok_lv (ok_gw rfl ⟨by omega, by omega⟩ (ok_lv (ok_ck (fun _ => by omega) (ok_lv (ok_gw rfl ⟨by omega, by omega⟩ (ok_lv (ok_ck (fun _ => by omega) (ok_lv (ok_gw rfl ⟨by omega, by omega⟩ (ok_lv (ok_f (by simp) (ok_ar (by omega) (ok_some ⟨⟨by omega, by omega⟩, by omega⟩))))))))))))))))))))))
end Go.Proofs.YtlolchgeedegdaaDoor.X
