/- Layouts of a stream; rules.Check accepts small layouts. Plain. -/
/- Maps; spots that are joined; the shapes of a layout. Plain. -/
/- rules.groups: shapes that are joined have one number, others have not. Plain. -/
/- Spots of a layer, spots up to a layer; the groups of each. Plain. -/
import Derived.Test.YtnnmbmgnpdcefaaPA
import Derived.Test.YtnnmbmgnpdcefaaYQ
namespace Go.Proofs.Ytnnmbmgnpdcefaa.X
open Go Go.RowKit
set_option linter.unusedVariables false
set_option linter.unusedSimpArgs false
set_option linter.unusedSectionVars false
theorem gt_snoc' {α : Type} [Inhabited α] {xs : List α} {x : α} {i : Int} (h : inb i (xs ++ [x]).length) : (inb i xs.length ∧ gt (xs ++ [x]) i = gt xs i) ∨ (i = xs.length ∧ gt (xs ++ [x]) i = x) := by
  obtain ⟨h0, h1⟩ := h
  simp only [List.length_append, List.length_singleton] at h1
  by_cases e : i = xs.length
  · exact .inr ⟨e, gt_app_1 e⟩
  · exact .inl ⟨⟨h0, by omega⟩, gt_app_l (by omega)⟩
/-- Of each element, with its number. -/
def All {α : Type} [Inhabited α] (p : Int → α → Prop) (xs : List α) : Prop := ∀ i, inb i xs.length → p i (gt xs i)
theorem All.nil {α : Type} [Inhabited α] {p : Int → α → Prop} : All p [] := fun i hi => by obtain ⟨a, b⟩ := hi; simp at b; omega
theorem All.snoc {α : Type} [Inhabited α] {p : Int → α → Prop} {xs : List α} {x : α} (h : All p xs) (hx : p xs.length x) : All p (xs ++ [x]) := by
  intro i hi
  rcases gt_snoc' hi with ⟨h1, e⟩ | ⟨h1, e⟩
  · rw [e]; exact h i h1
  · rw [e, h1]; exact hx
theorem All.mono {α : Type} [Inhabited α] {p q : Int → α → Prop} {xs : List α} (h : All p xs) (hpq : ∀ i x, inb i xs.length → p i x → q i x) : All q xs := fun i hi => hpq i _ hi (h i hi)
structure WireN (W H Ly N : Int) (w : T_rules_Wire) : Prop where
  net : 0 ≤ w.Net ∧ w.Net < N
  layer : 0 ≤ w.Layer ∧ w.Layer < Ly
  x : 0 ≤ w.X0 ∧ w.X0 ≤ w.X1 ∧ w.X1 < W
  y : 0 ≤ w.Y0 ∧ w.Y0 ≤ w.Y1 ∧ w.Y1 < H
  even : Int.tmod w.Layer 2 = 0 → w.Y0 = w.Y1
  odd : Int.tmod w.Layer 2 ≠ 0 → w.X0 = w.X1
structure ViaN (W H Ly N : Int) (w : T_rules_Via) : Prop where
  net : 0 ≤ w.Net ∧ w.Net < N
  layer : 0 ≤ w.Layer ∧ w.Layer ≤ Ly - 2
  x : 0 ≤ w.X ∧ w.X < W
  y : 0 ≤ w.Y ∧ w.Y < H
structure PinN (W H N : Int) (p : T_rules_Pin) : Prop where
  net : 0 ≤ p.Net ∧ p.Net < N
  x : 0 ≤ p.X ∧ p.X < W
  y : 0 ≤ p.Y ∧ p.Y < H
  size : 0 ≤ p.Size ∧ p.Size ≤ 5
  drive : p.Drive = true → p.Size = 0
structure WallN (W H Ly : Int) (w : T_floor_Wall) : Prop where
  layer : 0 ≤ w.Layer ∧ w.Layer < Ly
  x : 0 ≤ w.X0 ∧ w.X0 ≤ w.X1 ∧ w.X1 < W
  y : 0 ≤ w.Y0 ∧ w.Y0 ≤ w.Y1 ∧ w.Y1 < H
structure LayN (l : T_rules_Layout) : Prop where
  W : 4 ≤ l.W ∧ l.W ≤ 10
  H : 4 ≤ l.H ∧ l.H ≤ 10
  Ly : 1 ≤ l.Layers ∧ l.Layers ≤ 4
  N : 1 ≤ l.Nets ∧ l.Nets ≤ 4
  wireL : l.Wires.length ≤ 8
  wire : All (fun _ w => WireN l.W l.H l.Layers l.Nets w) l.Wires
  viaL : l.Vias.length ≤ 5
  via : All (fun _ w => ViaN l.W l.H l.Layers l.Nets w) l.Vias
  pinL : l.Pins.length ≤ 6
  pin : All (fun _ p => PinN l.W l.H l.Nets p) l.Pins
  wallL : l.Walls.length ≤ 2
  wall : All (fun _ w => WallN l.W l.H l.Layers w) l.Walls
theorem wire_ok {L : List Int} (hL : Strm L) {k : Int} (hk : Few (k + 10)) (hk0 : 0 ≤ k) {l : T_rules_Layout} (hW : 4 ≤ l.W ∧ l.W ≤ 10) (hH : 4 ≤ l.H ∧ l.H ≤ 10) (hY : 1 ≤ l.Layers ∧ l.Layers ≤ 4) (hN : 1 ≤ l.Nets ∧ l.Nets ≤ 4) :
    Ok (P_maskmake_Stream_wire (T_maskmake_Stream.mk L k) l) (fun r => WireN l.W l.H l.Layers l.Nets r.1 ∧ r.2 = k + 5) := by
  unfold P_maskmake_Stream_wire
  refine ok_bd (hL.next (by omega) (by omega)) ?_
  rintro ⟨a, k1⟩ ⟨a0, a1, -, rfl⟩
  have a1 := a1 (by omega)
  refine ok_bd (hL.next (by simp only; omega) (by omega)) ?_
  rintro ⟨b, k2⟩ ⟨b0, b1, -, rfl⟩
  have b1 := b1 (by omega)
  refine ok_bd (hL.next (by simp only; omega) (by omega)) ?_
  rintro ⟨c, k3⟩ ⟨c0, c1, -, rfl⟩
  have c1 := c1 (by omega)
  refine ok_bd (hL.next (by simp only; omega) (by omega)) ?_
  rintro ⟨d, k4⟩ ⟨d0, d1, -, rfl⟩
  have d1 := d1 (by omega)
  simp only at a0 a1 b0 b1 c0 c1 d0 d1
  refine ok_ck (by omega) (ok_lv ?_)
  by_cases e : Int.tmod b 2 = 0
  · refine ok_bd (R := fun r => (c ≤ r.1 ∧ r.1 < l.W) ∧ r.2.1 = d ∧ r.2.2 = k + 5) (ok_t e (ok_ar (by omega) (ok_bd (hL.range (by simp only; omega) (by simp only; omega) (by omega) (by simp only; omega)) ?_))) ?_
    · rintro ⟨x, k5⟩ ⟨x0, x1, rfl⟩
      simp only at x0 x1
      exact ok_some ⟨by simp only; omega, rfl, by simp only; omega⟩
    · rintro ⟨x, y, k5⟩ ⟨h1, h2, h3⟩
      simp only at h1 h2 h3
      subst h2
      exact ok_some ⟨⟨⟨a0, a1⟩, ⟨b0, b1⟩, ⟨c0, h1.1, h1.2⟩, ⟨d0, Int.le_refl _, d1⟩, fun _ => rfl, fun q => absurd e q⟩, h3⟩
  · refine ok_bd (R := fun r => r.1 = c ∧ (d ≤ r.2.1 ∧ r.2.1 < l.H) ∧ r.2.2 = k + 5) (ok_f e (ok_ar (by omega) (ok_bd (hL.range (by simp only; omega) (by simp only; omega) (by omega) (by simp only; omega)) ?_))) ?_
    · rintro ⟨x, k5⟩ ⟨x0, x1, rfl⟩
      simp only at x0 x1
      exact ok_some ⟨rfl, by simp only; omega, by simp only; omega⟩
    · rintro ⟨x, y, k5⟩ ⟨h1, h2, h3⟩
      simp only at h1 h2 h3
      subst h1
      exact ok_some ⟨⟨⟨a0, a1⟩, ⟨b0, b1⟩, ⟨c0, Int.le_refl _, c1⟩, ⟨d0, h2.1, h2.2⟩, fun q => absurd q e, fun _ => rfl⟩, h3⟩
theorem pick5_ok {L : List Int} (hL : Strm L) {k : Int} (hk : Few k) : Ok (P_maskmake_Stream_Pick (T_maskmake_Stream.mk L k) ([0, 1, 1, 2, 5] : List Int)) (fun r => (0 ≤ r.1 ∧ r.1 ≤ 5) ∧ r.2 = k + 1) := by
  unfold P_maskmake_Stream_Pick
  refine ok_bd (hL.next hk (by simp)) ?_
  rintro ⟨i, k2⟩ ⟨i0, i1, -, rfl⟩
  have i1 := i1 (by simp)
  simp only at i0 i1
  refine ok_ck ⟨i0, i1⟩ (ok_lv (ok_some ⟨?_, rfl⟩))
  have hm := gt_mem (xs := ([0, 1, 1, 2, 5] : List Int)) ⟨i0, i1⟩
  simp only [List.mem_cons, List.not_mem_nil, or_false] at hm
  simp only
  omega
theorem Layout_ok {L : List Int} (hL : Strm L) {k : Int} (hk : Few (k + 5000)) (hk0 : 0 ≤ k) : Ok (P_maskmake_Stream_Layout (T_maskmake_Stream.mk L k)) (fun r => LayN r.1 ∧ k ≤ r.2 ∧ r.2 ≤ k + 500) := by
  unfold P_maskmake_Stream_Layout
  refine ok_bd (hL.range (by omega) (by omega) (by omega) (by omega)) ?_
  rintro ⟨W, k1⟩ ⟨w0, w1, rfl⟩
  refine ok_bd (hL.range (by simp only; omega) (by omega) (by omega) (by omega)) ?_
  rintro ⟨H, k1⟩ ⟨h0, h1, rfl⟩
  refine ok_bd (hL.range (by simp only; omega) (by omega) (by omega) (by omega)) ?_
  rintro ⟨Y, k1⟩ ⟨y0, y1, rfl⟩
  refine ok_bd (hL.range (by simp only; omega) (by omega) (by omega) (by omega)) ?_
  rintro ⟨N, k1⟩ ⟨n0, n1, rfl⟩
  simp only at w0 w1 h0 h1 y0 y1 n0 n1
  have hW : 4 ≤ W ∧ W ≤ 10 := ⟨w0, w1⟩
  have hH : 4 ≤ H ∧ H ≤ 10 := ⟨h0, h1⟩
  have hY : 1 ≤ Y ∧ Y ≤ 4 := ⟨y0, y1⟩
  have hN : 1 ≤ N ∧ N ≤ 4 := ⟨n0, n1⟩
  refine ok_bd (hL.next (by simp only; omega) (by omega)) ?_
  rintro ⟨m, k2⟩ ⟨m0, m1, -, rfl⟩
  have m1 := m1 (by omega)
  simp only at m0 m1
  refine ok_bd (R := fun r => (k ≤ r.1 ∧ r.1 ≤ k + 60) ∧ r.2.length ≤ 8 ∧ All (fun _ w => WireN W H Y N w) r.2) ?_ ?_
  · refine ok_lp (fun s => (0 ≤ s.1 ∧ s.1 ≤ m) ∧ (k ≤ s.2.1 ∧ s.2.1 ≤ k + 5 + 5 * s.1) ∧ (s.2.2.length : Int) = s.1 ∧ All (fun _ w => WireN W H Y N w) s.2.2) (fun s => (m - s.1).toNat) ⟨⟨by simp, by simp only; omega⟩, by simp only; omega, by simp, All.nil⟩ (by simp only; omega) ?_
    rintro ⟨y, q, xs⟩ ⟨⟨z0, z1⟩, z2, z3, z4⟩
    simp only at z0 z1 z2 z3 z4
    unfold P_maskmake_Stream_Layout_L3
    dsimp only
    refine ok_ite (fun hlt => ?_) fun hge => ok_some ⟨by simp only; omega, by simp only; omega, z4⟩
    refine ok_bd (wire_ok hL (by omega) (by omega) hW hH hY hN) ?_
    rintro ⟨w, q2⟩ ⟨hw, rfl⟩
    exact ok_lv (ok_ck (by simp only [apOk, List.length_append, List.length_singleton]; omega) (ok_ar (by omega) (ok_some ⟨⟨⟨by simp only; omega, by simp only; omega⟩, by simp only; omega, by simp only [List.length_append, List.length_singleton]; omega, z4.snoc hw⟩, by simp only; omega⟩)))
  rintro ⟨k3, ws⟩ ⟨p1, p2, hws⟩
  simp only at p1 p2 hws
  refine ok_bd (hL.next (by omega) (by omega)) ?_
  rintro ⟨m, k4⟩ ⟨m0, m1, -, rfl⟩
  have m1 := m1 (by omega)
  simp only at m0 m1
  refine ok_bd (R := fun r => (k ≤ r.1 ∧ r.1 ≤ k + 200) ∧ r.2.length ≤ 5 ∧ All (fun _ w => ViaN W H Y N w) r.2) ?_ ?_
  · refine ok_lp (fun s => (0 ≤ s.1 ∧ s.1 ≤ m) ∧ (k ≤ s.2.1 ∧ s.2.1 ≤ k + 61 + 20 * s.1) ∧ (s.2.2.length : Int) ≤ s.1 ∧ All (fun _ w => ViaN W H Y N w) s.2.2) (fun s => (m - s.1).toNat) ⟨⟨by simp, by simp only; omega⟩, by simp only; omega, by simp, All.nil⟩ (by simp only; omega) ?_
    rintro ⟨y, q, xs⟩ ⟨⟨z0, z1⟩, z2, z3, z4⟩
    simp only at z0 z1 z2 z3 z4
    unfold P_maskmake_Stream_Layout_L7
    dsimp only
    refine ok_ite (fun hlt => ?_) fun hge => ok_some ⟨by simp only; omega, by simp only; omega, z4⟩
    refine ok_bd (R := fun r => (q ≤ r.1 ∧ r.1 ≤ q + 20) ∧ (r.2.length : Int) ≤ y + 1 ∧ All (fun _ w => ViaN W H Y N w) r.2) (ok_ite (fun hY2 => ?_) fun _ => ok_some ⟨by simp only; omega, by simp only; omega, z4⟩) ?_
    · refine ok_bd (hL.next (by omega) (by omega)) ?_
      rintro ⟨a, q1⟩ ⟨a0, a1, -, rfl⟩
      have a1 := a1 (by omega)
      refine ok_ar (by omega) (ok_bd (hL.next (by simp only; omega) (by omega)) ?_)
      rintro ⟨b, q1⟩ ⟨b0, b1, -, rfl⟩
      have b1 := b1 (by omega)
      refine ok_bd (hL.next (by simp only; omega) (by omega)) ?_
      rintro ⟨c, q1⟩ ⟨c0, c1, -, rfl⟩
      have c1 := c1 (by omega)
      refine ok_bd (hL.next (by simp only; omega) (by omega)) ?_
      rintro ⟨d, q1⟩ ⟨d0, d1, -, rfl⟩
      have d1 := d1 (by omega)
      simp only at a0 a1 b0 b1 c0 c1 d0 d1
      refine ok_bd (R := fun r => (r.1 = true → 0 < ws.length) ∧ q + 4 ≤ r.2 ∧ r.2 ≤ q + 5) (ok_ite (fun hp => ?_) fun hp => ok_some ⟨by simp, by simp only; omega, by simp only; omega⟩) ?_
      · refine ok_bd (hL.next (by simp only; omega) (by omega)) ?_
        rintro ⟨e, q1⟩ ⟨-, -, -, rfl⟩
        have hp := of_decide_eq_true hp
        exact ok_some ⟨fun _ => by omega, by simp only; omega, by simp only; omega⟩
      rintro ⟨t, q2⟩ ⟨u1, u2, u3⟩
      simp only at u1 u2 u3
      refine ok_bd (R := fun r => (q ≤ r.1 ∧ r.1 ≤ q + 20) ∧ ViaN W H Y N ⟨r.2.1, r.2.2.1, r.2.2.2.1, r.2.2.2.2⟩) (ok_ite (fun ht => ?_) fun _ => ok_some ⟨by simp only; omega, ⟨⟨a0, a1⟩, ⟨b0, by simp only; omega⟩, ⟨c0, c1⟩, ⟨d0, d1⟩⟩⟩) ?_
      · have hpos := u1 ht
        refine ok_bd (hL.next (by simp only; omega) (by omega)) ?_
        rintro ⟨i, q1⟩ ⟨i0, i1, -, rfl⟩
        have i1 := i1 (by omega)
        simp only at i0 i1
        have hw := hws i ⟨i0, i1⟩
        have x := hw.x
        have yy := hw.y
        have nn := hw.net
        have ly := hw.layer
        dsimp only
        refine ok_ck ⟨i0, i1⟩ (ok_lv (ok_bd (hL.range (by omega) (by omega) (by omega) (by omega)) ?_))
        rintro ⟨xx, q1⟩ ⟨x0, x1, rfl⟩
        dsimp only at x0 x1
        dsimp only
        refine ok_bd (hL.range (by omega) (by omega) (by omega) (by omega)) ?_
        rintro ⟨yv, q1⟩ ⟨v0, v1, rfl⟩
        refine ok_bd (hL.next (by simp only; omega) (by omega)) ?_
        rintro ⟨j, q1⟩ ⟨j0, j1, -, rfl⟩
        have j1 := j1 (by omega)
        dsimp only at v0 v1 j0 j1
        dsimp only
        exact ok_ar (by omega) (ok_ar (by omega) (ok_lv (ok_lv (ok_some ⟨by simp only; omega, ⟨nn, ⟨by simp only; omega, by simp only; omega⟩, ⟨by simp only; omega, by simp only; omega⟩, ⟨by simp only; omega, by simp only; omega⟩⟩⟩))))
      rintro ⟨q3, r1, r2, r3, r4⟩ ⟨v1, v2⟩
      simp only at v1 v2
      exact ok_lv (ok_ck (by simp only [apOk, List.length_append, List.length_singleton]; omega) (ok_some ⟨v1, by simp only [List.length_append, List.length_singleton]; omega, z4.snoc v2⟩))
    rintro ⟨q3, vs⟩ ⟨v1, v2, v3⟩
    simp only at v1 v2 v3
    exact ok_ar (by omega) (ok_some ⟨⟨⟨by simp only; omega, by simp only; omega⟩, by simp only; omega, by simp only; omega, v3⟩, by simp only; omega⟩)
  rintro ⟨k5, vs⟩ ⟨p3, p4, hvs⟩
  simp only at p3 p4 hvs
  refine ok_bd (hL.next (by omega) (by omega)) ?_
  rintro ⟨m, k6⟩ ⟨m0, m1, -, rfl⟩
  have m1 := m1 (by omega)
  simp only at m0 m1
  refine ok_bd (R := fun r => (k ≤ r.1 ∧ r.1 ≤ k + 300) ∧ r.2.length ≤ 6 ∧ All (fun _ p => PinN W H N p) r.2) ?_ ?_
  · refine ok_lp (fun s => (0 ≤ s.1 ∧ s.1 ≤ m) ∧ (k ≤ s.2.1 ∧ s.2.1 ≤ k + 201 + 10 * s.1) ∧ (s.2.2.length : Int) = s.1 ∧ All (fun _ p => PinN W H N p) s.2.2) (fun s => (m - s.1).toNat) ⟨⟨by simp, by simp only; omega⟩, by simp only; omega, by simp, All.nil⟩ (by simp only; omega) ?_
    rintro ⟨y, q, xs⟩ ⟨⟨z0, z1⟩, z2, z3, z4⟩
    simp only at z0 z1 z2 z3 z4
    unfold P_maskmake_Stream_Layout_L17
    dsimp only
    refine ok_ite (fun hlt => ?_) fun hge => ok_some ⟨by simp only; omega, by simp only; omega, z4⟩
    refine ok_bd (hL.next (by omega) (by omega)) ?_
    rintro ⟨a, q1⟩ ⟨a0, a1, -, rfl⟩
    have a1 := a1 (by omega)
    refine ok_bd (hL.next (by simp only; omega) (by omega)) ?_
    rintro ⟨b, q1⟩ ⟨b0, b1, -, rfl⟩
    have b1 := b1 (by omega)
    refine ok_bd (hL.next (by simp only; omega) (by omega)) ?_
    rintro ⟨c, q1⟩ ⟨c0, c1, -, rfl⟩
    have c1 := c1 (by omega)
    simp only at a0 a1 b0 b1 c0 c1
    refine ok_bd (hL.flip (by simp only; omega) (by omega)) ?_
    rintro ⟨fl, q1⟩ hq
    simp only at hq
    subst hq
    refine ok_bd (R := fun r => (q ≤ r.1 ∧ r.1 ≤ q + 5) ∧ (0 ≤ r.2 ∧ r.2 ≤ 5) ∧ (fl = true → r.2 = 0)) (ok_ite (fun hf => ?_) fun hf => ok_some ⟨by simp only; omega, by simp only; omega, fun _ => rfl⟩) ?_
    · refine ok_bd (pick5_ok hL (by simp only; omega)) ?_
      rintro ⟨sz, q2⟩ ⟨hsz, rfl⟩
      simp only at hsz
      exact ok_some ⟨by simp only; omega, hsz, fun e => by simp [e] at hf⟩
    rintro ⟨q2, sz⟩ ⟨u1, u2, u3⟩
    simp only at u1 u2 u3
    exact ok_lv (ok_ck (by simp only [apOk, List.length_append, List.length_singleton]; omega) (ok_ar (by omega) (ok_some ⟨⟨⟨by simp only; omega, by simp only; omega⟩, by simp only; omega, by simp only [List.length_append, List.length_singleton]; omega, z4.snoc ⟨⟨a0, a1⟩, ⟨b0, b1⟩, ⟨c0, c1⟩, u2, u3⟩⟩, by simp only; omega⟩)))
  rintro ⟨k7, ps⟩ ⟨p5, p6, hps⟩
  simp only at p5 p6 hps
  refine ok_bd (hL.next (by omega) (by omega)) ?_
  rintro ⟨m, k8⟩ ⟨m0, m1, -, rfl⟩
  have m1 := m1 (by omega)
  simp only at m0 m1
  refine ok_bd (R := fun r => (k ≤ r.2 ∧ r.2 ≤ k + 400) ∧ r.1.length ≤ 2 ∧ All (fun _ w => WallN W H Y w) r.1) ?_ ?_
  · refine ok_lp (fun s => (0 ≤ s.1 ∧ s.1 ≤ m) ∧ (k ≤ s.2.1 ∧ s.2.1 ≤ k + 301 + 10 * s.1) ∧ (s.2.2.length : Int) = s.1 ∧ All (fun _ w => WallN W H Y w) s.2.2) (fun s => (m - s.1).toNat) ⟨⟨by simp, by simp only; omega⟩, by simp only; omega, by simp, All.nil⟩ (by simp only; omega) ?_
    rintro ⟨y, q, xs⟩ ⟨⟨z0, z1⟩, z2, z3, z4⟩
    simp only at z0 z1 z2 z3 z4
    unfold P_maskmake_Stream_Layout_L24
    dsimp only
    refine ok_ite (fun hlt => ?_) fun hge => ok_some ⟨by simp only; omega, by simp only; omega, z4⟩
    refine ok_bd (hL.next (by omega) (by omega)) ?_
    rintro ⟨a, q1⟩ ⟨a0, a1, -, rfl⟩
    have a1 := a1 (by omega)
    refine ok_bd (hL.next (by simp only; omega) (by omega)) ?_
    rintro ⟨b, q1⟩ ⟨b0, b1, -, rfl⟩
    have b1 := b1 (by omega)
    refine ok_bd (hL.next (by simp only; omega) (by omega)) ?_
    rintro ⟨c, q1⟩ ⟨c0, c1, -, rfl⟩
    have c1 := c1 (by omega)
    simp only at a0 a1 b0 b1 c0 c1
    refine ok_ar (by omega) (ok_bd (hL.next (by simp only; omega) (by omega)) ?_)
    rintro ⟨d, q1⟩ ⟨d0, d1, -, rfl⟩
    have d1 := d1 (by omega)
    simp only at d0 d1
    refine ok_ar (by omega) (ok_lv (ok_ar (by omega) (ok_bd (hL.next (by simp only; omega) (by omega)) ?_)))
    rintro ⟨e, q1⟩ ⟨e0, e1, -, rfl⟩
    have e1 := e1 (by omega)
    simp only at e0 e1
    exact ok_ar (by omega) (ok_lv (ok_lv (ok_ck (by simp only [apOk, List.length_append, List.length_singleton]; omega) (ok_ar (by omega) (ok_some ⟨⟨⟨by simp only; omega, by simp only; omega⟩, by simp only; omega, by simp only [List.length_append, List.length_singleton]; omega, z4.snoc ⟨⟨c0, c1⟩, ⟨a0, by simp only; omega, by simp only; omega⟩, ⟨b0, by simp only; omega, by simp only; omega⟩⟩⟩, by simp only; omega⟩)))))
  rintro ⟨wl, k9⟩ ⟨p7, p8, hwl⟩
  simp only at p7 p8 hwl
  exact ok_some ⟨⟨hW, hH, hY, hN, p2, hws, p4, hvs, p6, hps, p8, hwl⟩, by simp only; omega, by simp only; omega⟩
/-- What the laws draw, and a little more. -/
structure LayR (l : T_rules_Layout) : Prop where
  W : 1 ≤ l.W ∧ l.W ≤ 10
  H : 1 ≤ l.H ∧ l.H ≤ 10
  Ly : 1 ≤ l.Layers ∧ l.Layers ≤ 4
  N : 1 ≤ l.Nets ∧ l.Nets ≤ 4
  wireL : l.Wires.length ≤ 10
  wire : All (fun _ w => WireN l.W l.H l.Layers l.Nets w) l.Wires
  viaL : l.Vias.length ≤ 5
  via : All (fun _ w => ViaN l.W l.H l.Layers l.Nets w) l.Vias
  pinL : l.Pins.length ≤ 6
  pin : All (fun _ p => PinN l.W l.H l.Nets p) l.Pins
  wallL : l.Walls.length ≤ 2
  wall : All (fun _ w => WallN l.W l.H l.Layers w) l.Walls
theorem LayN.r {l : T_rules_Layout} (h : LayN l) : LayR l := ⟨⟨by have := h.W; omega, h.W.2⟩, ⟨by have := h.H; omega, h.H.2⟩, h.Ly, h.N, by have := h.wireL; omega, h.wire, h.viaL, h.via, h.pinL, h.pin, h.wallL, h.wall⟩
theorem All.mem {α : Type} [Inhabited α] {p : α → Prop} {xs : List α} : All (fun _ x => p x) xs ↔ ∀ x ∈ xs, p x := by
  constructor
  · intro h x hx
    obtain ⟨i, hi, rfl⟩ := List.getElem_of_mem hx
    have := h (i : Int) ⟨by omega, by omega⟩
    rwa [gt_get ⟨by omega, by omega⟩] at this
  · intro h i hi
    exact h _ (gt_mem hi)
theorem within_ok {n a b : Int} (h : a ≤ n ∧ n ≤ b) : Ok (P_rules_within n a b) (fun r => r = true) := by
  unfold P_rules_within
  exact ok_lv (ok_some (by simp [h.1, h.2]))
theorem ok_wi {β : Type} {n a b : Int} {k : Bool → Option β} {Q : β → Prop} (h : a ≤ n ∧ n ≤ b) (hk : Ok (k true) Q) : Ok (bd (P_rules_within n a b) k) Q := ok_bd (within_ok h) (by rintro _ rfl; exact hk)
theorem ok_gw {β : Type} {n a b : Int} {q : Bool} {k : Bool → Option β} {Q : β → Prop} (hq : q = true) (h : a ≤ n ∧ n ≤ b) (hk : Ok (k true) Q) : Ok (bd (gd q (P_rules_within n a b)) k) Q := by
  subst hq
  exact ok_bd (within_ok h) (by rintro _ rfl; exact hk)
theorem checkWire_ok {l : T_rules_Layout} (hl : LayR l) {w : T_rules_Wire} (h : WireN l.W l.H l.Layers l.Nets w) : Ok (P_rules_checkWire l w) (fun r => r = 0) := by
  have a := hl.W
  have b := hl.H
  have c := hl.Ly
  have d := hl.N
  have e := h.net
  have f := h.layer
  have g := h.x
  have i := h.y
  unfold P_rules_checkWire
  refine ok_ar (by omega) (ok_wi ⟨by omega, by omega⟩ (ok_f (by simp) (ok_ar (by omega) (ok_wi ⟨by omega, by omega⟩ (ok_ck (fun _ => by omega) (ok_lv (ok_gw rfl ⟨by omega, by omega⟩ (ok_lv (ok_ck (fun _ => by omega) (ok_lv (ok_gw rfl ⟨by omega, by omega⟩ (ok_lv (ok_ck (fun _ => by omega) (ok_lv (ok_gw rfl ⟨by omega, by omega⟩ (ok_lv (ok_ck (fun _ => by omega) (ok_lv (ok_gw rfl ⟨by omega, by omega⟩ (ok_lv (ok_f (by simp) ?_)))))))))))))))))))))
  refine ok_ck (by omega) (ok_lv (ok_lv (ok_ck (fun _ => by omega) (ok_lv (ok_lv (ok_lv (ok_f ?_ (ok_some rfl))))))))
  have h1 := h.even
  have h2 := h.odd
  simp only [Bool.or_eq_true, Bool.and_eq_true, decide_eq_true_eq]
  rintro (⟨q1, q2⟩ | ⟨q1, q2⟩)
  · exact q2 (h1 q1)
  · exact q2 (h2 (by omega))
theorem RCheck_ok {l : T_rules_Layout} (hl : LayR l) : Ok (P_rules_Check l) (fun r => r = 0) := by
  have a := hl.W
  have b := hl.H
  have c := hl.Ly
  have d := hl.N
  have e1 := hl.wireL
  have e2 := hl.viaL
  have e3 := hl.pinL
  have e4 := hl.wallL
  unfold P_rules_Check
  refine ok_wi ⟨by omega, by omega⟩ (ok_gw rfl ⟨by omega, by omega⟩ (ok_lv (ok_gw rfl ⟨by omega, by omega⟩ (ok_lv (ok_gw rfl ⟨by omega, by omega⟩ (ok_lv (ok_f (by simp) (ok_lv (ok_lv (ok_lv (ok_f (by simp only [Bool.or_eq_true, decide_eq_true_eq]; omega) ?_)))))))))))
  refine ok_bs1 (R := fun r => r ≤ 1000) ?_ fun pts hpts => ok_bs1 (R := fun _ => True) ?_ fun _ _ => ok_bs1 (R := fun _ => True) ?_ fun _ _ => ok_bs1 (R := fun _ => True) ?_ fun _ _ => ok_f (by omega) (ok_some rfl)
  · refine ok_lp (fun s => (0 ≤ s.2 ∧ s.2 ≤ l.Wires.length) ∧ 0 ≤ s.1 ∧ s.1 ≤ 30 * s.2) (fun s => ((l.Wires.length : Int) - s.2).toNat) ⟨⟨by simp, by simp only; omega⟩, by simp, by simp⟩ (by simp only; omega) ?_
    rintro ⟨p, y⟩ ⟨⟨y0, y1⟩, y2, y3⟩
    simp only at y0 y1 y2 y3
    unfold P_rules_Check_L7
    dsimp only
    refine ok_ite (fun hlt => ?_) fun hge => ok_some ⟨_, rfl, by omega⟩
    have hw := hl.wire y ⟨y0, hlt⟩
    have g := hw.x
    have i := hw.y
    refine ok_ck ⟨y0, hlt⟩ (ok_lv (ok_bd (checkWire_ok hl hw) ?_))
    rintro _ rfl
    exact ok_f (by simp) (ok_ar (by omega) (ok_ar (by omega) (ok_ar (by omega) (ok_ar (by omega) (ok_ar (by omega) (ok_ar (by omega) (ok_some ⟨⟨⟨by simp only; omega, by simp only; omega⟩, by simp only; omega, by simp only; omega⟩, by simp only; omega⟩)))))))
  · refine ok_lp (fun y => 0 ≤ y ∧ y ≤ l.Vias.length) (fun y => ((l.Vias.length : Int) - y).toNat) ⟨by omega, by omega⟩ (by omega) ?_
    rintro y ⟨y0, y1⟩
    unfold P_rules_Check_L15
    refine ok_ite (fun hlt => ?_) fun hge => ok_some ⟨(), rfl, trivial⟩
    have hw := hl.via y ⟨y0, hlt⟩
    have e := hw.net
    have f := hw.layer
    have g := hw.x
    have i := hw.y
    exact ok_ck ⟨y0, hlt⟩ (ok_lv (ok_ar (by omega) (ok_wi ⟨by omega, by omega⟩ (ok_f (by simp) (ok_ar (by omega) (ok_wi ⟨by omega, by omega⟩ (ok_ck (fun _ => by omega) (ok_lv (ok_gw rfl ⟨by omega, by omega⟩ (ok_lv (ok_ck (fun _ => by omega) (ok_lv (ok_gw rfl ⟨by omega, by omega⟩ (ok_lv (ok_f (by simp) (ok_ar (by omega) (ok_some ⟨⟨by omega, by omega⟩, by omega⟩)))))))))))))))))
  · refine ok_lp (fun y => 0 ≤ y ∧ y ≤ l.Pins.length) (fun y => ((l.Pins.length : Int) - y).toNat) ⟨by omega, by omega⟩ (by omega) ?_
    rintro y ⟨y0, y1⟩
    unfold P_rules_Check_L23
    refine ok_ite (fun hlt => ?_) fun hge => ok_some ⟨(), rfl, trivial⟩
    have hw := hl.pin y ⟨y0, hlt⟩
    have e := hw.net
    have f := hw.size
    have g := hw.x
    have i := hw.y
    refine ok_ck ⟨y0, hlt⟩ (ok_lv (ok_ar (by omega) (ok_wi ⟨by omega, by omega⟩ (ok_f (by simp) (ok_ar (by omega) (ok_wi ⟨by omega, by omega⟩ (ok_ck (fun _ => by omega) (ok_lv (ok_gw rfl ⟨by omega, by omega⟩ (ok_lv (ok_gw rfl ⟨by omega, by omega⟩ (ok_lv (ok_lv (ok_lv (ok_f ?_ (ok_ar (by omega) (ok_some ⟨⟨by omega, by omega⟩, by omega⟩)))))))))))))))))
    simp only [Bool.not_true, Bool.or_self, Bool.false_or, Bool.and_eq_true, decide_eq_true_eq]
    rintro ⟨q1, q2⟩
    have := hw.drive q1
    omega
  · refine ok_lp (fun y => 0 ≤ y ∧ y ≤ l.Walls.length) (fun y => ((l.Walls.length : Int) - y).toNat) ⟨by omega, by omega⟩ (by omega) ?_
    rintro y ⟨y0, y1⟩
    unfold P_rules_Check_L31
    refine ok_ite (fun hlt => ?_) fun hge => ok_some ⟨(), rfl, trivial⟩
    have hw := hl.wall y ⟨y0, hlt⟩
    have f := hw.layer
    have g := hw.x
    have i := hw.y
    exact ok_ck ⟨y0, hlt⟩ (ok_lv (ok_ar (by omega) (ok_wi ⟨by omega, by omega⟩ (ok_ck (fun _ => by omega) (ok_lv (ok_gw rfl ⟨by omega, by omega⟩ (ok_lv (ok_ck (fun _ => by omega) (ok_lv (ok_gw rfl ⟨by omega, by omega⟩ (ok_lv (ok_ck (fun _ => by omega) (ok_lv (ok_gw rfl ⟨by omega, by omega⟩ (ok_lv (ok_ck (fun _ => by omega) (ok_lv (ok_gw rfl ⟨by omega, by omega⟩ (ok_lv (ok_f (by simp) (ok_ar (by omega) (ok_some ⟨⟨by omega, by omega⟩, by omega⟩))))))))))))))))))))))
end Go.Proofs.Ytnnmbmgnpdcefaa.X
namespace Go.Proofs.Ytnnmbmgnpdcefaa.X
open Go Go.RowKit
set_option linter.unusedVariables false
set_option linter.unusedSimpArgs false
set_option linter.unusedSectionVars false
section
variable {κ α : Type} [DecidableEq κ]
theorem mfind_mput' {k k' : κ} {v : α} : ∀ {es : List (κ × α)}, mfind k' (mput k v es) = if k' = k then some v else mfind k' es
  | [] => by simp only [mput, mfind]
  | (a, b) :: r => by
    by_cases e : k = a
    · subst e
      by_cases q : k' = k <;> simp [mput, mfind, q]
    · simp only [mput, e, if_false, mfind]
      rw [mfind_mput' (es := r)]
      by_cases q : k' = k
      · subst q; simp [e]
      · simp [q]
theorem mget_mput {k k' : κ} {v d : α} {es : List (κ × α)} : mget k' (mput k v es) d = if k' = k then v else mget k' es d := by
  unfold mget
  rw [mfind_mput']
  split <;> rfl
theorem mhas_mput {k k' : κ} {v : α} {es : List (κ × α)} : mhas k' (mput k v es) = if k' = k then true else mhas k' es := by
  unfold mhas
  rw [mfind_mput']
  split <;> rfl
theorem has_mput {k k' : κ} {v : α} {es : List (κ × α)} : mhas k' (mput k v es) = true ↔ k' = k ∨ mhas k' es = true := by
  rw [mhas_mput]
  by_cases q : k' = k <;> simp [q]
theorem mhas_mem {k : κ} : ∀ {es : List (κ × α)}, mhas k es = true ↔ k ∈ es.map (·.1)
  | [] => by simp [mhas, mfind]
  | (a, b) :: r => by
    by_cases e : k = a
    · simp [mhas, mfind, e]
    · have := mhas_mem (k := k) (es := r)
      simp only [mhas, mfind, e, if_false] at this ⊢
      simp only [List.map_cons, List.mem_cons, e, false_or]
      exact this
def Ks (es : List (κ × α)) : Prop := (es.map (·.1)).Nodup
theorem Ks.nil : Ks ([] : List (κ × α)) := List.nodup_nil
theorem Ks.put {k : κ} {v : α} : ∀ {es : List (κ × α)}, Ks es → Ks (mput k v es)
  | [], _ => by simp [Ks, mput]
  | (a, b) :: r, h => by
    unfold Ks at h ⊢
    simp only [List.map_cons, List.nodup_cons] at h
    by_cases e : k = a
    · simp only [mput, e, if_true, List.map_cons, List.nodup_cons]
      exact h
    · simp only [mput, e, if_false, List.map_cons, List.nodup_cons]
      refine ⟨fun hm => ?_, Ks.put (es := r) h.2⟩
      have := has_mput.1 (mhas_mem.2 hm)
      rcases this with q | q
      · exact e q.symm
      · exact h.1 (mhas_mem.1 q)
end

/-- What is joined by steps of A. -/
inductive Conn {α : Type} (A : α → α → Prop) : α → α → Prop
  | refl (p : α) : Conn A p p
  | tail {p q r : α} : Conn A p q → A q r → Conn A p r
section
variable {α : Type} {A B : α → α → Prop}
theorem Conn.one {p q : α} (h : A p q) : Conn A p q := .tail (.refl p) h
theorem Conn.trans {p q r : α} (h1 : Conn A p q) (h2 : Conn A q r) : Conn A p r := by
  induction h2 with
  | refl => exact h1
  | tail _ h ih => exact .tail ih h
theorem Conn.symm (hs : ∀ {p q}, A p q → A q p) {p q : α} (h : Conn A p q) : Conn A q p := by
  induction h with
  | refl => exact .refl _
  | tail _ h ih => exact (Conn.one (hs h)).trans ih
theorem Conn.sub (hs : ∀ {p q}, A p q → Conn B p q) {p q : α} (h : Conn A p q) : Conn B p q := by
  induction h with
  | refl => exact .refl _
  | tail _ h ih => exact ih.trans (hs h)
theorem Conn.closed {S : α → Prop} (hS : ∀ {p q}, S p → A p q → S q) {p q : α} (h : Conn A p q) (hp : S p) : S q := by
  induction h with
  | refl => exact hp
  | tail _ h ih => exact hS ih h
end
theorem map_ex {α β : Type} [Inhabited α] {f : α → β} {xs : List α} {i : Nat} (h : i < xs.length) : (xs.map f)[i]? = some (f (gt xs i)) := by
  rw [List.getElem?_map, List.getElem?_eq_getElem h, gt_nth h]; rfl
/-! the shapes -/
def wspots (w : T_rules_Wire) : List T_rules_Spot := (List.range (w.Y1 - w.Y0 + 1).toNat).flatMap fun j : Nat => (List.range (w.X1 - w.X0 + 1).toNat).map fun i : Nat => ⟨w.Layer, w.X0 + i, w.Y0 + j⟩
def shW (w : T_rules_Wire) : T_rules_shape := ⟨w.Net, wspots w, true, -1⟩
def shV (v : T_rules_Via) : T_rules_shape := ⟨v.Net, [⟨v.Layer, v.X, v.Y⟩, ⟨v.Layer + 1, v.X, v.Y⟩], false, -1⟩
def shP (k : Nat) (p : T_rules_Pin) : T_rules_shape := ⟨p.Net, [⟨0, p.X, p.Y⟩], false, k⟩
def shPs (ps : List T_rules_Pin) : List T_rules_shape := (List.range ps.length).map fun k => shP k (gt ps k)
def shps (l : T_rules_Layout) : List T_rules_shape := l.Wires.map shW ++ l.Vias.map shV ++ shPs l.Pins
def Cov (w : T_rules_Wire) (p : T_rules_Spot) : Prop := p.Layer = w.Layer ∧ w.X0 ≤ p.X ∧ p.X ≤ w.X1 ∧ w.Y0 ≤ p.Y ∧ p.Y ≤ w.Y1
theorem mem_wspots {w : T_rules_Wire} {p : T_rules_Spot} : p ∈ wspots w ↔ Cov w p := by
  unfold wspots Cov
  simp only [List.mem_flatMap, List.mem_range, List.mem_map]
  constructor
  · rintro ⟨j, hj, i, hi, rfl⟩
    dsimp only; omega
  · rintro ⟨h1, h2, h3, h4, h5⟩
    refine ⟨(p.Y - w.Y0).toNat, by omega, (p.X - w.X0).toNat, by omega, ?_⟩
    obtain ⟨a, b, c⟩ := p
    dsimp only at *
    subst h1
    have e1 : w.X0 + ((b - w.X0).toNat : Int) = b := by omega
    have e2 : w.Y0 + ((c - w.Y0).toNat : Int) = c := by omega
    rw [e1, e2]
theorem flat_len {α β : Type} {f : α → List β} {c : Nat} : ∀ {xs : List α}, (∀ x ∈ xs, (f x).length ≤ c) → (xs.flatMap f).length ≤ xs.length * c
  | [], _ => by simp
  | x :: xs, h => by
    have h1 := h x (by simp)
    have h2 := flat_len (f := f) (c := c) (xs := xs) fun y hy => h y (List.mem_cons_of_mem _ hy)
    simp only [List.flatMap_cons, List.length_append, List.length_cons, Nat.add_mul, Nat.one_mul]; omega
theorem flat_eq {α β : Type} {f : α → List β} {c : Nat} : ∀ {xs : List α}, (∀ x ∈ xs, (f x).length = c) → (xs.flatMap f).length = xs.length * c
  | [], _ => by simp
  | x :: xs, h => by
    have h1 := h x (by simp)
    have h2 := flat_eq (f := f) (c := c) (xs := xs) fun y hy => h y (List.mem_cons_of_mem _ hy)
    simp only [List.flatMap_cons, List.length_append, List.length_cons, Nat.add_mul, Nat.one_mul]; omega
theorem wspots_len {W H Ly N : Int} {w : T_rules_Wire} (h : WireN W H Ly N w) (hW : W ≤ 10) (hH : H ≤ 10) : (wspots w).length ≤ 10 := by
  have a := h.x
  have b := h.y
  unfold wspots
  rw [flat_eq (c := (w.X1 - w.X0 + 1).toNat) (fun j _ => by simp)]
  rw [List.length_range]
  by_cases e : Int.tmod w.Layer 2 = 0
  · have := h.even e
    rw [show (w.Y1 - w.Y0 + 1).toNat = 1 by omega, Nat.one_mul]; omega
  · have := h.odd e
    rw [show (w.X1 - w.X0 + 1).toNat = 1 by omega, Nat.mul_one]; omega
theorem range_snoc {β : Type} (n : Nat) (f : Nat → β) : (List.range (n + 1)).map f = (List.range n).map f ++ [f n] := by
  rw [List.range_succ, List.map_append]; rfl
theorem shrow_ok {w : T_rules_Wire} {y : Int} {acc : List T_rules_Spot} (hx : w.X0 ≤ w.X1 ∧ w.X1 - w.X0 ≤ 10) (hb : -1000 ≤ w.X0 ∧ w.X0 ≤ 1000) (ha : acc.length ≤ 1000) :
    Ok (lp (P_rules_shapes_L10 w y) fuel (w.X0, acc)) (fun r => r = acc ++ (List.range (w.X1 - w.X0 + 1).toNat).map fun i : Nat => ⟨w.Layer, w.X0 + i, y⟩) := by
  refine ok_lp (fun s => (w.X0 ≤ s.1 ∧ s.1 ≤ w.X1 + 1) ∧ s.2 = acc ++ (List.range (s.1 - w.X0).toNat).map fun i : Nat => ⟨w.Layer, w.X0 + i, y⟩) (fun s => (w.X1 + 1 - s.1).toNat) ⟨⟨by simp, by simp only; omega⟩, by simp⟩ (by simp only; omega) ?_
  rintro ⟨x, b⟩ ⟨⟨x0, x1⟩, hbb⟩
  dsimp only at x0 x1 hbb
  subst hbb
  unfold P_rules_shapes_L10
  dsimp only
  refine ok_ite (fun hlt => ok_lv (ok_ck ?_ (ok_ar (by unfold I64; omega) (ok_some ⟨⟨⟨by simp only; omega, by simp only; omega⟩, ?_⟩, by simp only; omega⟩)))) fun hge => ok_some ?_
  · simp only [apOk, List.length_append, List.length_map, List.length_range, List.length_singleton]; omega
  · dsimp only
    rw [show (x + 1 - w.X0).toNat = (x - w.X0).toNat + 1 by omega, range_snoc, List.append_assoc]
    have : w.X0 + ((x - w.X0).toNat : Int) = x := by omega
    rw [this]
  · rw [show (x - w.X0).toNat = (w.X1 - w.X0 + 1).toNat by omega]
theorem shwire_ok {w : T_rules_Wire} (hx : w.X0 ≤ w.X1 ∧ w.X1 - w.X0 ≤ 10) (hb : -1000 ≤ w.X0 ∧ w.X0 ≤ 1000) (hy : w.Y0 ≤ w.Y1 ∧ w.Y1 - w.Y0 ≤ 10) (hc : -1000 ≤ w.Y0 ∧ w.Y0 ≤ 1000) :
    Ok (lp (P_rules_shapes_L7 w) fuel (w.Y0, [])) (fun r => r = wspots w) := by
  refine ok_lp (fun s => (w.Y0 ≤ s.1 ∧ s.1 ≤ w.Y1 + 1) ∧ s.2 = (List.range (s.1 - w.Y0).toNat).flatMap fun j : Nat => (List.range (w.X1 - w.X0 + 1).toNat).map fun i : Nat => ⟨w.Layer, w.X0 + i, w.Y0 + j⟩) (fun s => (w.Y1 + 1 - s.1).toNat) ⟨⟨by simp, by simp only; omega⟩, by simp⟩ (by simp only; omega) ?_
  rintro ⟨y, b⟩ ⟨⟨y0, y1⟩, hbb⟩
  dsimp only at y0 y1 hbb
  subst hbb
  unfold P_rules_shapes_L7
  dsimp only
  refine ok_ite (fun hlt => ?_) fun hge => ok_some ?_
  · have hle : ((List.range (y - w.Y0).toNat).flatMap fun j : Nat => (List.range (w.X1 - w.X0 + 1).toNat).map fun i : Nat => (⟨w.Layer, w.X0 + i, w.Y0 + j⟩ : T_rules_Spot)).length ≤ 1000 := by
      refine Nat.le_trans (flat_len (c := 11) fun j _ => by simp; omega) ?_
      rw [List.length_range]; omega
    refine ok_bd (shrow_ok hx hb hle) ?_
    rintro _ rfl
    refine ok_ar (by unfold I64; omega) (ok_some ⟨⟨⟨by simp only; omega, by simp only; omega⟩, ?_⟩, by simp only; omega⟩)
    dsimp only
    rw [show (y + 1 - w.Y0).toNat = (y - w.Y0).toNat + 1 by omega, List.range_succ, List.flatMap_append]
    have : w.Y0 + ((y - w.Y0).toNat : Int) = y := by omega
    simp only [List.flatMap_cons, List.flatMap_nil, List.append_nil, this]
  · unfold wspots
    rw [show (y - w.Y0).toNat = (w.Y1 - w.Y0 + 1).toNat by omega]
theorem take_snoc {β : Type} [Inhabited β] {xs : List β} {i : Int} (h : inb i xs.length) : xs.take (i + 1).toNat = xs.take i.toNat ++ [gt xs i] := by
  have hl := inb_lt h
  obtain ⟨h0, h1⟩ := h
  rw [show (i + 1).toNat = i.toNat + 1 by omega, List.take_succ_eq_append_getElem hl, gt_get ⟨h0, h1⟩]
theorem shapes_ok {l : T_rules_Layout} (hl : LayR l) : Ok (P_rules_shapes l) (fun r => r = shps l) := by
  have hW := hl.W
  have hH := hl.H
  have e1 := hl.wireL
  have e2 := hl.viaL
  have e3 := hl.pinL
  unfold P_rules_shapes
  refine ok_bd (R := fun r => r = l.Wires.map shW) ?_ ?_
  · refine ok_lp (fun s => (0 ≤ s.2 ∧ s.2 ≤ l.Wires.length) ∧ s.1 = (l.Wires.take s.2.toNat).map shW) (fun s => ((l.Wires.length : Int) - s.2).toNat) ⟨⟨by simp, by simp⟩, by simp⟩ (by simp only; omega) ?_
    rintro ⟨b, y⟩ ⟨⟨y0, y1⟩, hbb⟩
    dsimp only at y0 y1 hbb
    subst hbb
    unfold P_rules_shapes_L3
    dsimp only
    refine ok_ite (fun hlt => ?_) fun hge => ok_some ?_
    · have hw := hl.wire y ⟨y0, hlt⟩
      have hx := hw.x
      have hy := hw.y
      refine ok_ck ⟨y0, hlt⟩ (ok_lv (ok_bd (shwire_ok ⟨by omega, by omega⟩ ⟨by omega, by omega⟩ ⟨by omega, by omega⟩ ⟨by omega, by omega⟩) ?_))
      rintro _ rfl
      refine ok_lv (ok_ck (by simp only [apOk, List.length_append, List.length_map, List.length_take, List.length_singleton]; omega) (ok_ar (by unfold I64; omega) (ok_some ⟨⟨⟨by simp only; omega, by simp only; omega⟩, ?_⟩, by simp only; omega⟩)))
      dsimp only
      rw [take_snoc ⟨y0, hlt⟩, List.map_append]; rfl
    · rw [List.take_of_length_le (by omega)]
  rintro _ rfl
  refine ok_bd (R := fun r => r = l.Wires.map shW ++ l.Vias.map shV) ?_ ?_
  · refine ok_lp (fun s => (0 ≤ s.2 ∧ s.2 ≤ l.Vias.length) ∧ s.1 = l.Wires.map shW ++ (l.Vias.take s.2.toNat).map shV) (fun s => ((l.Vias.length : Int) - s.2).toNat) ⟨⟨by simp, by simp⟩, by simp⟩ (by simp only; omega) ?_
    rintro ⟨b, y⟩ ⟨⟨y0, y1⟩, hbb⟩
    dsimp only at y0 y1 hbb
    subst hbb
    unfold P_rules_shapes_L16
    dsimp only
    refine ok_ite (fun hlt => ?_) fun hge => ok_some ?_
    · have hw := (hl.via y ⟨y0, hlt⟩).layer
      have hy := hl.Ly
      refine ok_ck ⟨y0, hlt⟩ (ok_lv (ok_ar (by unfold I64; omega) (ok_lv (ok_ck (by simp only [apOk, List.length_append, List.length_map, List.length_take, List.length_singleton]; omega) (ok_ar (by unfold I64; omega) (ok_some ⟨⟨⟨by simp only; omega, by simp only; omega⟩, ?_⟩, by simp only; omega⟩))))))
      dsimp only
      rw [take_snoc ⟨y0, hlt⟩, List.map_append, List.append_assoc]; rfl
    · rw [List.take_of_length_le (by omega)]
  rintro _ rfl
  refine ok_bd (R := fun r => r = shps l) ?_ fun r hr => ok_some hr
  refine ok_lp (fun s => (0 ≤ s.2 ∧ s.2 ≤ l.Pins.length) ∧ s.1 = l.Wires.map shW ++ l.Vias.map shV ++ (List.range s.2.toNat).map fun k : Nat => shP k (gt l.Pins k)) (fun s => ((l.Pins.length : Int) - s.2).toNat) ⟨⟨by simp, by simp⟩, by simp⟩ (by simp only; omega) ?_
  rintro ⟨b, y⟩ ⟨⟨y0, y1⟩, hbb⟩
  dsimp only at y0 y1 hbb
  subst hbb
  unfold P_rules_shapes_L21
  dsimp only
  refine ok_ite (fun hlt => ?_) fun hge => ok_some ?_
  · refine ok_ck ⟨y0, hlt⟩ (ok_lv (ok_lv (ok_ck (by simp only [apOk, List.length_append, List.length_map, List.length_range, List.length_singleton]; omega) (ok_ar (by unfold I64; omega) (ok_some ⟨⟨⟨by simp only; omega, by simp only; omega⟩, ?_⟩, by simp only; omega⟩)))))
    dsimp only
    rw [show (y + 1).toNat = y.toNat + 1 by omega, range_snoc, ← List.append_assoc]
    have : ((y.toNat : Nat) : Int) = y := by omega
    rw [this]
    unfold shP
    rw [this]
  · unfold shps shPs
    rw [show y.toNat = l.Pins.length by omega]
end Go.Proofs.Ytnnmbmgnpdcefaa.X
namespace Go.Proofs.Ytnnmbmgnpdcefaa.X
open Go Go.RowKit
set_option linter.unusedVariables false
set_option linter.unusedSimpArgs false
set_option linter.unusedSectionVars false
/-- The root of a place. -/
def rt (up : List Int) (i : Nat) : Nat := if h : (gt up (i : Int)).toNat < i then rt up (gt up (i : Int)).toNat else i
termination_by i
structure UF (n : Nat) (up : List Int) : Prop where
  len : up.length = n
  dn : ∀ i : Nat, i < n → 0 ≤ gt up (i : Int) ∧ gt up (i : Int) ≤ i
theorem rt_step {up : List Int} {i : Nat} (h : (gt up (i : Int)).toNat < i) : rt up i = rt up (gt up (i : Int)).toNat := by
  rw [rt]; rw [dif_pos h]
theorem rt_root {up : List Int} {i : Nat} (h : ¬ (gt up (i : Int)).toNat < i) : rt up i = i := by
  rw [rt]; rw [dif_neg h]
theorem rt_le {up : List Int} (i : Nat) : rt up i ≤ i := by
  induction i using Nat.strongRecOn with
  | ind i ih =>
    by_cases h : (gt up (i : Int)).toNat < i
    · rw [rt_step h]; have := ih _ h; omega
    · rw [rt_root h]; exact Nat.le_refl _
theorem rt_fix {up : List Int} (i : Nat) : ¬ (gt up ((rt up i : Nat) : Int)).toNat < rt up i := by
  induction i using Nat.strongRecOn with
  | ind i ih =>
    by_cases h : (gt up (i : Int)).toNat < i
    · rw [rt_step h]; exact ih _ h
    · rw [rt_root h]; exact h
theorem rt_rt {up : List Int} (i : Nat) : rt up (rt up i) = rt up i := rt_root (rt_fix i)
section
variable {n : Nat} {up : List Int}
theorem UF.inb (h : UF n up) {i : Nat} (hi : i < n) : X.inb (i : Int) up.length := ⟨by omega, by rw [h.len]; omega⟩
theorem UF.put (h : UF n up) {i q : Nat} (hi : i < n) (hq : q ≤ i) : UF n (stt up (i : Int) (q : Int)) := by
  refine ⟨by rw [stt_length]; exact h.len, fun j hj => ?_⟩
  rw [gt_stt _ _ (h.inb hi) (by omega)]
  split
  · omega
  · exact h.dn j hj
/-- A path is halved: all roots stay. -/
theorem rt_halve (h : UF n up) {i : Nat} (hi : i < n) (hne : gt up (i : Int) ≠ i) : ∀ j, j < n → rt (stt up (i : Int) (gt up (gt up (i : Int)))) j = rt up j := by
  have hd := h.dn i hi
  have hp : (gt up (i : Int)).toNat < i := by omega
  have hd2 := h.dn (gt up (i : Int)).toNat (by omega)
  rw [Int.toNat_of_nonneg hd.1] at hd2
  intro j
  induction j using Nat.strongRecOn with
  | ind j ih =>
    intro hj
    by_cases e : j = i
    · subst e
      have e1 : gt (stt up (j : Int) (gt up (gt up (j : Int)))) (j : Int) = gt up (gt up (j : Int)) := by rw [gt_stt _ _ (h.inb hi) (by omega), if_pos rfl]
      rw [rt_step (by rw [e1]; omega), e1, ih _ (by omega) (by omega), rt_step hp]
      by_cases q : (gt up (gt up (j : Int))).toNat < (gt up (j : Int)).toNat
      · rw [rt_step (i := (gt up (j : Int)).toNat) (by rw [Int.toNat_of_nonneg hd.1]; exact q), Int.toNat_of_nonneg hd.1]
      · have e2 : (gt up (gt up (j : Int))).toNat = (gt up (j : Int)).toNat := by omega
        rw [e2]
    · have e1 : gt (stt up (i : Int) (gt up (gt up (i : Int)))) (j : Int) = gt up (j : Int) := by rw [gt_stt _ _ (h.inb hi) (by omega), if_neg (by omega)]
      by_cases q : (gt up (j : Int)).toNat < j
      · rw [rt_step (by rw [e1]; exact q), rt_step q, e1, ih _ q (by omega)]
      · rw [rt_root (by rw [e1]; exact q), rt_root q]
/-- Two roots are joined. -/
theorem rt_join (h : UF n up) {a b : Nat} (hb : b < n) (hab : a ≤ b) (ha : rt up a = a) (hbr : rt up b = b) : ∀ j, j < n → rt (stt up (b : Int) (a : Int)) j = if rt up j = b then a else rt up j := by
  intro j
  induction j using Nat.strongRecOn with
  | ind j ih =>
    intro hj
    by_cases e : j = b
    · subst e
      have e1 : gt (stt up (j : Int) (a : Int)) (j : Int) = a := by rw [gt_stt _ _ (h.inb hb) (by omega), if_pos rfl]
      rw [if_pos hbr]
      by_cases q : a < j
      · rw [rt_step (by rw [e1]; omega), e1, Int.toNat_natCast, ih _ q (by omega), ha, if_neg (by omega)]
      · rw [rt_root (by rw [e1]; omega)]; omega
    · have e1 : gt (stt up (b : Int) (a : Int)) (j : Int) = gt up (j : Int) := by rw [gt_stt _ _ (h.inb hb) (by omega), if_neg (by omega)]
      by_cases q : (gt up (j : Int)).toNat < j
      · rw [rt_step (by rw [e1]; exact q), rt_step q, e1, ih _ q (by omega)]
      · rw [rt_root (by rw [e1]; exact q), rt_root q, if_neg e]
theorem root_ok (h : UF n up) {i : Nat} (hi : i < n) (hn : n ≤ 1000) : Ok (P_rules_groups_1 (i : Int) up) (fun r => r.1 = rt up i ∧ UF n r.2 ∧ ∀ j, j < n → rt r.2 j = rt up j) := by
  unfold P_rules_groups_1
  refine ok_bd (R := fun r => r.1 = rt up i ∧ UF n r.2 ∧ ∀ j, j < n → rt r.2 j = rt up j) ?_ (fun r hr => ok_some hr)
  refine ok_lp (fun s => (0 ≤ s.1 ∧ s.1 < n) ∧ UF n s.2 ∧ (∀ j, j < n → rt s.2 j = rt up j) ∧ rt up s.1.toNat = rt up i) (fun s => s.1.toNat) ⟨⟨by simp, by simp only; omega⟩, h, fun _ _ => rfl, by simp⟩ (by simp only; omega) ?_
  rintro ⟨x, u⟩ ⟨⟨x0, x1⟩, hu, hr, hx⟩
  dsimp only at x0 x1 hu hr hx
  obtain ⟨k, rfl⟩ := Int.eq_ofNat_of_zero_le x0
  have hk : k < n := by omega
  simp only [Int.toNat_natCast] at hx
  have d1 := hu.dn k hk
  unfold P_rules_groups_1_L1
  dsimp only
  refine ok_ck (hu.inb hk) (ok_lv (ok_ite (fun hne => ?_) (fun he => ok_some ?_)))
  · have hp : (gt u (k : Int)).toNat < k := by omega
    have d2 := hu.dn (gt u (k : Int)).toNat (by omega)
    rw [Int.toNat_of_nonneg d1.1] at d2
    have hl := hu.len
    refine ok_ck (hu.inb hk) (ok_lv (ok_ck ⟨by omega, by omega⟩ (ok_lv (ok_ck (hu.inb hk) (ok_lv (ok_ck ⟨by omega, by rw [stt_length]; omega⟩ (ok_lv (ok_some ?_))))))))
    rw [gt_stt _ _ (hu.inb hk) (by omega), if_pos rfl]
    have hh := rt_halve hu hk hne
    have hput : UF n (stt u (k : Int) (gt u (gt u (k : Int)))) := by
      have := hu.put (i := k) (q := (gt u (gt u (k : Int))).toNat) hk (by omega)
      rwa [Int.toNat_of_nonneg d2.1] at this
    refine ⟨⟨⟨by dsimp only; omega, by dsimp only; omega⟩, hput, fun j hj => (hh j hj).trans (hr j hj), ?_⟩, by dsimp only; omega⟩
    dsimp only
    have e1 := hr (gt u (gt u (k : Int))).toNat (by omega)
    have e2 := hr k hk
    have e3 := hh k hk
    have e4 : gt (stt u (k : Int) (gt u (gt u (k : Int)))) (k : Int) = gt u (gt u (k : Int)) := by rw [gt_stt _ _ (hu.inb hk) (by omega), if_pos rfl]
    rw [rt_step (by rw [e4]; omega), e4, hh _ (by omega), e1, e2, hx] at e3
    exact e3
  · refine ⟨?_, hu, hr⟩
    have : rt u k = k := rt_root (by omega)
    have e2 := hr k hk
    dsimp only
    omega
end
/-! groups -/
section
variable (sh : List T_rules_shape) (g : T_rules_shape → List T_rules_Spot)
/-- Two spots of a net that a shape covers. -/
def Adj (n : Int) (p q : T_rules_Spot) : Prop := ∃ s ∈ sh, s.fnet = n ∧ p ∈ g s ∧ q ∈ g s
/-- Shapes of one group. -/
def EC (i j : Nat) : Prop := i = j ∨ (gt sh (i : Int)).fnet = (gt sh (j : Int)).fnet ∧ ∃ p ∈ g (gt sh (i : Int)), ∃ q ∈ g (gt sh (j : Int)), Conn (Adj sh g (gt sh (i : Int)).fnet) p q
def GrpOk (G : List Int) : Prop := G.length = sh.length ∧ ∀ i j : Nat, i < sh.length → j < sh.length → (gt G (i : Int) = gt G (j : Int) ↔ EC sh g i j)
end
section
variable {sh : List T_rules_shape} {g : T_rules_shape → List T_rules_Spot}
theorem Adj.symm {n : Int} {p q : T_rules_Spot} (h : Adj sh g n p q) : Adj sh g n q p := by
  obtain ⟨s, h1, h2, h3, h4⟩ := h; exact ⟨s, h1, h2, h4, h3⟩
theorem sh_mem {i : Nat} (h : i < sh.length) : gt sh (i : Int) ∈ sh := gt_mem ⟨by omega, by omega⟩
theorem EC.symm {i j : Nat} (h : EC sh g i j) : EC sh g j i := by
  rcases h with rfl | ⟨h1, p, hp, q, hq, hc⟩
  · exact .inl rfl
  · exact .inr ⟨h1.symm, q, hq, p, hp, by rw [← h1]; exact hc.symm Adj.symm⟩
theorem EC.trans {i j k : Nat} (hj : j < sh.length) (h : EC sh g i j) (h' : EC sh g j k) : EC sh g i k := by
  rcases h with rfl | ⟨h1, p, hp, q, hq, hc⟩
  · exact h'
  · rcases h' with rfl | ⟨h2, p', hp', q', hq', hc'⟩
    · exact .inr ⟨h1, p, hp, q, hq, hc⟩
    · refine .inr ⟨h1.trans h2, p, hp, q', hq', (Conn.tail hc ⟨_, sh_mem hj, h1.symm, hq, hp'⟩).trans ?_⟩
      rw [h1]; exact hc'
theorem EC.one {i j : Nat} {p : T_rules_Spot} (h1 : (gt sh (i : Int)).fnet = (gt sh (j : Int)).fnet) (hp : p ∈ g (gt sh (i : Int))) (hq : p ∈ g (gt sh (j : Int))) : EC sh g i j := .inr ⟨h1, p, hp, p, hq, .refl _⟩
/-- What the search has found. -/
structure GI (sh : List T_rules_shape) (g : T_rules_shape → List T_rules_Spot) (first : List (T_rules_key × Int)) (up : List Int) (D : Nat → T_rules_Spot → Prop) : Prop where
  uf : UF sh.length up
  snd : ∀ i, i < sh.length → EC sh g i (rt up i)
  key : ∀ k, mhas k first = true → ∃ j : Nat, j < sh.length ∧ mget k first 0 = j ∧ (gt sh (j : Int)).fnet = k.fnet ∧ k.fat ∈ g (gt sh (j : Int))
  fin : ∀ i p, i < sh.length → D i p → mhas ⟨(gt sh (i : Int)).fnet, p⟩ first = true ∧ rt up i = rt up (mget ⟨(gt sh (i : Int)).fnet, p⟩ first 0).toNat
theorem GI.mono {first : List (T_rules_key × Int)} {up : List Int} {D D' : Nat → T_rules_Spot → Prop} (h : GI sh g first up D) (hD : ∀ i p, i < sh.length → D' i p → D i p) : GI sh g first up D' :=
  ⟨h.uf, h.snd, h.key, fun i p hi hp => h.fin i p hi (hD i p hi hp)⟩
theorem grp13_ok {first : List (T_rules_key × Int)} {up : List Int} {D : Nat → T_rules_Spot → Prop} (h : GI sh g first up D) (hn : sh.length ≤ 1000) {i : Nat} (hi : i < sh.length) (hg : (g (gt sh (i : Int))).length ≤ 1000) :
    Ok (lp (P_rules_groups_L13 (gt sh (i : Int)) (g (gt sh (i : Int))) (i : Int)) fuel (first, 0, up)) (fun r => GI sh g r.1 r.2 (fun j p => D j p ∨ j = i ∧ p ∈ g (gt sh (i : Int)))) := by
  generalize hr : g (gt sh (i : Int)) = r at hg ⊢
  refine ok_lp (fun s => (0 ≤ s.2.1 ∧ s.2.1 ≤ r.length) ∧ GI sh g s.1 s.2.2 (fun j p => D j p ∨ j = i ∧ p ∈ r.take s.2.1.toNat)) (fun s => ((r.length : Int) - s.2.1).toNat) ⟨⟨by simp, by simp⟩, h.mono fun j p _ hp => by simpa using hp⟩ (by simp only; omega) ?_
  rintro ⟨f, y, u⟩ ⟨⟨y0, y1⟩, hI⟩
  dsimp only at y0 y1 hI
  unfold P_rules_groups_L13
  dsimp only
  refine ok_ite (fun hlt => ?_) fun hge => ok_some ?_
  · have hy : inb y r.length := ⟨y0, hlt⟩
    have hpr : gt r y ∈ r := gt_mem hy
    have htake : ∀ p, p ∈ r.take (y + 1).toNat ↔ p ∈ r.take y.toNat ∨ p = gt r y := fun p => by rw [take_snoc hy]; simp
    refine ok_bd (R := fun s => GI sh g s.1 s.2 (fun j p => D j p ∨ j = i ∧ p ∈ r.take (y + 1).toNat)) ?_ fun s hs => ok_ar (by unfold I64; omega) (ok_some ⟨⟨⟨by dsimp only; omega, by dsimp only; omega⟩, hs⟩, by dsimp only; omega⟩)
    refine ok_ck hy (ok_lv (ok_lv (ok_lv (ok_ite (fun hh => ok_lv (ok_some ?_)) (fun hh => ?_)))))
    · have hno : mhas (⟨(gt sh (i : Int)).fnet, gt r y⟩ : T_rules_key) f = false := by simpa using hh
      dsimp only
      refine ⟨hI.uf, hI.snd, fun k hk => ?_, fun j p hj hp => ?_⟩
      · rw [has_mput] at hk
        rw [mget_mput]
        split
        · rename_i e; subst e; exact ⟨i, hi, rfl, rfl, by rw [hr]; exact hpr⟩
        · rename_i e; exact hI.key k (hk.resolve_left e)
      · rw [has_mput, mget_mput]
        by_cases e : (⟨(gt sh (j : Int)).fnet, p⟩ : T_rules_key) = ⟨(gt sh (i : Int)).fnet, gt r y⟩
        · have hj' : j = i := by
            rcases hp with hp | ⟨hp, hp2⟩
            · have := (hI.fin j p hj (.inl hp)).1
              rw [e, hno] at this; cases this
            · exact hp
          subst hj'
          exact ⟨.inl e, by rw [if_pos e]; simp⟩
        · rw [if_neg e]
          have : D j p ∨ j = i ∧ p ∈ r.take y.toNat := by
            rcases hp with hp | ⟨rfl, hp2⟩
            · exact .inl hp
            · rcases (htake p).1 hp2 with h1 | h1
              · exact .inr ⟨rfl, h1⟩
              · subst h1; exact absurd rfl e
          obtain ⟨h1, h2⟩ := hI.fin j p hj this
          exact ⟨.inr h1, h2⟩
    · have hyes : mhas (⟨(gt sh (i : Int)).fnet, gt r y⟩ : T_rules_key) f = true := by simpa using hh
      obtain ⟨j, hj, ej, nj, pj⟩ := hI.key _ hyes
      dsimp only at nj pj
      refine ok_bd (root_ok hI.uf hi hn) ?_
      rintro ⟨a, u1⟩ ⟨ha, hu1, hr1⟩
      dsimp only at ha hu1 hr1
      show Ok (bd (P_rules_groups_1 (mget (⟨(gt sh (i : Int)).fnet, gt r y⟩ : T_rules_key) f 0) u1) _) _
      rw [ej]
      refine ok_bd (root_ok hu1 hj hn) ?_
      rintro ⟨b, u2⟩ ⟨hb, hu2, hr2⟩
      dsimp only at hb hu2 hr2
      subst ha hb
      rw [hr1 j hj]
      have hai := rt_le (up := u) i
      have hbj := rt_le (up := u) j
      have hall : ∀ k, k < sh.length → rt u2 k = rt u k := fun k hk => (hr2 k hk).trans (hr1 k hk)
      have hra : rt u2 (rt u i) = rt u i := by rw [hall _ (by omega), rt_rt]
      have hrb : rt u2 (rt u j) = rt u j := by rw [hall _ (by omega), rt_rt]
      obtain ⟨m, M, hm, hM, hmM, hMn, hcase⟩ : ∃ m M : Nat, min ((rt u i : Nat) : Int) ((rt u j : Nat) : Int) = m ∧ max ((rt u i : Nat) : Int) ((rt u j : Nat) : Int) = M ∧ m ≤ M ∧ M < sh.length ∧ (m = rt u i ∧ M = rt u j ∨ m = rt u j ∧ M = rt u i) := by
        rcases Nat.le_total (rt u i) (rt u j) with q | q
        · exact ⟨rt u i, rt u j, by omega, by omega, q, by omega, .inl ⟨rfl, rfl⟩⟩
        · exact ⟨rt u j, rt u i, by omega, by omega, q, by omega, .inr ⟨rfl, rfl⟩⟩
      rw [hm, hM]
      have hl2 := hu2.len
      refine ok_lv (ok_lv (ok_ck ⟨by omega, by dsimp only; omega⟩ (ok_lv (ok_some ?_))))
      have hmr : rt u2 m = m := by rcases hcase with ⟨h1, _⟩ | ⟨h1, _⟩ <;> rw [h1] <;> assumption
      have hMr : rt u2 M = M := by rcases hcase with ⟨_, h1⟩ | ⟨_, h1⟩ <;> rw [h1] <;> assumption
      have hjn := rt_join hu2 hMn hmM hmr hMr
      have hij : EC sh g i j := EC.one nj.symm (by rw [hr]; exact hpr) pj
      have eci := hI.snd i hi
      have ecj := hI.snd j hj
      have hmMe : EC sh g M m := by
        have h1 : EC sh g (rt u i) (rt u j) := EC.trans hi eci.symm (EC.trans hj hij ecj)
        rcases hcase with ⟨e1, e2⟩ | ⟨e1, e2⟩
        · rw [e1, e2]; exact h1.symm
        · rw [e1, e2]; exact h1
      dsimp only
      refine ⟨hu2.put hMn hmM, fun k hk => ?_, hI.key, fun k p hk hp => ?_⟩
      · rw [hjn k hk, hall k hk]
        have := hI.snd k hk
        split
        · rename_i e; rw [e] at this; exact EC.trans hMn this hmMe
        · exact this
      · have old : (D k p ∨ k = i ∧ p ∈ r.take y.toNat) → mhas ⟨(gt sh (k : Int)).fnet, p⟩ f = true ∧ rt (stt u2 (M : Int) (m : Int)) k = rt (stt u2 (M : Int) (m : Int)) (mget ⟨(gt sh (k : Int)).fnet, p⟩ f 0).toNat := fun hp => by
          obtain ⟨h1, h2⟩ := hI.fin k p hk hp
          obtain ⟨z, hz, ez, _, _⟩ := hI.key _ h1
          refine ⟨h1, ?_⟩
          rw [ez, Int.toNat_natCast] at h2 ⊢
          rw [hjn k hk, hjn z hz, hall k hk, hall z hz, h2]
        rcases hp with hp | ⟨rfl, hp2⟩
        · exact old (.inl hp)
        · rcases (htake p).1 hp2 with h1 | h1
          · exact old (.inr ⟨rfl, h1⟩)
          · subst h1
            refine ⟨hyes, ?_⟩
            rw [ej, Int.toNat_natCast, hjn k hk, hjn j hj, hall k hk, hall j hj]
            rcases hcase with ⟨e1, e2⟩ | ⟨e1, e2⟩
            · rw [if_pos e2.symm]; split <;> omega
            · rw [if_pos e2.symm]; split <;> omega
  · dsimp only
    refine hI.mono fun j p _ hp => ?_
    rcases hp with hp | ⟨rfl, hp⟩
    · exact .inl hp
    · exact .inr ⟨rfl, by rw [List.take_of_length_le (by omega)]; exact hp⟩
/-- All is found: the roots tell the groups. -/
theorem GI.roots {first : List (T_rules_key × Int)} {up : List Int} (h : GI sh g first up (fun i p => p ∈ g (gt sh (i : Int)))) {i j : Nat} (hi : i < sh.length) (hj : j < sh.length) : rt up i = rt up j ↔ EC sh g i j := by
  have one : ∀ {a b : Nat} {p : T_rules_Spot}, a < sh.length → b < sh.length → (gt sh (a : Int)).fnet = (gt sh (b : Int)).fnet → p ∈ g (gt sh (a : Int)) → p ∈ g (gt sh (b : Int)) → rt up a = rt up b := fun {a b p} ha hb hn hp hq => by
    obtain ⟨_, h1⟩ := h.fin a p ha hp
    obtain ⟨_, h2⟩ := h.fin b p hb hq
    rw [h1, h2, hn]
  constructor
  · intro e
    have h1 := h.snd i hi
    have h2 := h.snd j hj
    have := rt_le (up := up) i
    rw [← e] at h2
    exact EC.trans (by omega) h1 h2.symm
  · rintro (rfl | ⟨hn, p, hp, q, hq, hc⟩)
    · rfl
    · have key : ∀ {q}, Conn (Adj sh g (gt sh (i : Int)).fnet) p q → ∀ b : Nat, b < sh.length → (gt sh (b : Int)).fnet = (gt sh (i : Int)).fnet → q ∈ g (gt sh (b : Int)) → rt up i = rt up b := by
        intro q hc
        induction hc with
        | refl => exact fun b hb hn hq => one hi hb hn.symm hp hq
        | tail _ ha ih =>
          intro b hb hnb hqb
          obtain ⟨s, hs, hsn, h1, h2⟩ := ha
          obtain ⟨c, hcl, rfl⟩ := List.getElem_of_mem hs
          have ec : gt sh (c : Int) = sh[c] := gt_nth hcl
          rw [← ec] at hsn h1 h2
          exact (ih c hcl hsn h1).trans (one hcl hb (hsn.trans hnb.symm) h2 hqb)
      exact key hc j hj hn.symm hq
theorem grp26_ok {up : List Int} (hu : UF sh.length up) (hn : sh.length ≤ 1000) (hr : ∀ i j : Nat, i < sh.length → j < sh.length → (rt up i = rt up j ↔ EC sh g i j)) {z : List Int} (hz : z.length = sh.length) :
    Ok (lp (P_rules_groups_L26 sh) fuel ([], z, 0, up)) (fun r => GrpOk sh g r) := by
  refine ok_lp (fun s => (0 ≤ s.2.2.1 ∧ s.2.2.1 ≤ sh.length) ∧ s.2.1.length = sh.length ∧ UF sh.length s.2.2.2 ∧ (∀ j, j < sh.length → rt s.2.2.2 j = rt up j) ∧ (s.1.length : Int) ≤ s.2.2.1 ∧ (∀ r, mhas r s.1 = true → mget r s.1 0 < s.1.length) ∧ (∀ r r', mhas r s.1 = true → mhas r' s.1 = true → mget r s.1 0 = mget r' s.1 0 → r = r') ∧ ∀ i : Nat, (i : Int) < s.2.2.1 → mhas ((rt up i : Nat) : Int) s.1 = true ∧ gt s.2.1 (i : Int) = mget ((rt up i : Nat) : Int) s.1 0) (fun s => ((sh.length : Int) - s.2.2.1).toNat)
    ⟨⟨by simp, by simp⟩, hz, hu, fun _ _ => rfl, by simp, fun r h => by simp [mhas, mfind] at h, fun r r' h => by simp [mhas, mfind] at h, fun i h => by simp only at h; omega⟩ (by simp only; omega) ?_
  rintro ⟨num, out, y, u⟩ ⟨⟨y0, y1⟩, ho, hU, hru, hnl, hlt, hinj, hdone⟩
  dsimp only at y0 y1 ho hU hru hnl hlt hinj hdone
  obtain ⟨k, rfl⟩ := Int.eq_ofNat_of_zero_le y0
  unfold P_rules_groups_L26
  dsimp only
  refine ok_ite (fun hk => ?_) fun hge => ok_some ⟨ho, fun i j hi hj => ?_⟩
  · have hk' : k < sh.length := by omega
    refine ok_bd (root_ok hU hk' hn) ?_
    rintro ⟨a, u1⟩ ⟨ha, hu1, hr1⟩
    dsimp only at ha hu1 hr1
    subst ha
    rw [hru k hk']
    refine ok_lv (ok_lv (ok_bd (R := fun nm => (nm.length : Int) ≤ k + 1 ∧ mhas ((rt up k : Nat) : Int) nm = true ∧ (∀ r, mhas r nm = true → mget r nm 0 < nm.length) ∧ (∀ r r', mhas r nm = true → mhas r' nm = true → mget r nm 0 = mget r' nm 0 → r = r') ∧ ∀ r, mhas r num = true → mhas r nm = true ∧ mget r nm 0 = mget r num 0) ?_ ?_))
    · refine ok_ite (fun hc => ok_lv (ok_some ?_)) (fun hc => ok_some ?_)
      · have hno : mhas ((rt up k : Nat) : Int) num = false := by simpa using hc
        have hlen : (mput ((rt up k : Nat) : Int) (num.length : Int) num).length = num.length + 1 := mput_none (by
          unfold mhas at hno; cases hf : mfind ((rt up k : Nat) : Int) num with
          | none => rfl
          | some v => rw [hf] at hno; cases hno)
        refine ⟨by rw [hlen]; omega, has_mput.2 (.inl rfl), fun r hh => ?_, fun r r' hh hh' e => ?_, fun r hh => ?_⟩
        · rw [mget_mput, hlen]
          split
          · omega
          · rename_i q
            have := hlt r ((has_mput.1 hh).resolve_left q); omega
        · rw [mget_mput, mget_mput] at e
          by_cases q : r = ((rt up k : Nat) : Int)
          · by_cases q' : r' = ((rt up k : Nat) : Int)
            · rw [q, q']
            · rw [if_pos q, if_neg q'] at e
              have := hlt r' ((has_mput.1 hh').resolve_left q'); omega
          · by_cases q' : r' = ((rt up k : Nat) : Int)
            · rw [if_neg q, if_pos q'] at e
              have := hlt r ((has_mput.1 hh).resolve_left q); omega
            · rw [if_neg q, if_neg q'] at e
              exact hinj r r' ((has_mput.1 hh).resolve_left q) ((has_mput.1 hh').resolve_left q') e
        · refine ⟨has_mput.2 (.inr hh), ?_⟩
          rw [mget_mput, if_neg]
          intro q; rw [q, hno] at hh; cases hh
      · have hyes : mhas ((rt up k : Nat) : Int) num = true := by simpa using hc
        exact ⟨by omega, hyes, hlt, hinj, fun r hh => ⟨hh, rfl⟩⟩
    rintro nm ⟨m1, m2, m3, m4, m5⟩
    refine ok_lv (ok_ck ⟨by omega, by omega⟩ (ok_lv (ok_ar (by unfold I64; omega) (ok_some ⟨⟨⟨by dsimp only; omega, by dsimp only; omega⟩, by dsimp only; rw [stt_length]; exact ho, hu1, fun j hj => (hr1 j hj).trans (hru j hj), m1, m3, m4, fun i hi => ?_⟩, by dsimp only; omega⟩))))
    dsimp only at hi ⊢
    rw [gt_stt _ _ ⟨by omega, by omega⟩ (by omega)]
    by_cases e : i = k
    · subst e; exact ⟨m2, by rw [if_pos rfl]⟩
    · obtain ⟨d1, d2⟩ := hdone i (by omega)
      obtain ⟨d3, d4⟩ := m5 _ d1
      exact ⟨d3, by rw [if_neg (by omega), d2, d4]⟩
  · obtain ⟨a1, a2⟩ := hdone i (by omega)
    obtain ⟨b1, b2⟩ := hdone j (by omega)
    rw [← hr i j hi hj, a2, b2]
    constructor
    · intro e; have := hinj _ _ a1 b1 e; omega
    · intro e; rw [e]
end
end Go.Proofs.Ytnnmbmgnpdcefaa.X
namespace Go.Proofs.Ytnnmbmgnpdcefaa.X
open Go Go.RowKit
set_option linter.unusedVariables false
set_option linter.unusedSimpArgs false
set_option linter.unusedSectionVars false
section
variable {α : Type} [Inhabited α] {keep : α → Bool} {s z : List α} {i j : Int}
/-- Elements are taken out: what stands ahead of i is what was kept of those ahead of j; the rest is as it was. -/
structure DelI (keep : α → Bool) (s z : List α) (i j : Int) : Prop where
  len : z.length = s.length
  i0 : 0 ≤ i
  ij : i < j
  jn : j ≤ s.length
  tk : z.take i.toNat = (s.take j.toNat).filter keep
  rest : ∀ k, j ≤ k → k < s.length → gt z k = gt s k
theorem DelI.drop (h : DelI keep s z i j) (hj : j < s.length) (hk : keep (gt s j) = false) : DelI keep s z i (j + 1) := by
  have h0 := h.i0
  have h1 := h.ij
  refine ⟨h.len, h0, by omega, by omega, ?_, fun k a b => h.rest k (by omega) b⟩
  rw [take_snoc ⟨by omega, hj⟩, List.filter_append, h.tk]
  simp [hk]
theorem DelI.kept (h : DelI keep s z i j) (hj : j < s.length) (hk : keep (gt s j) = true) : DelI keep s (stt z i (gt s j)) (i + 1) (j + 1) := by
  have h0 := h.i0
  have h1 := h.ij
  have hl := h.len
  have hi : inb i z.length := ⟨h0, by omega⟩
  refine ⟨by rw [stt_length]; exact hl, by omega, by omega, by omega, ?_, fun k a b => ?_⟩
  · rw [take_snoc (xs := stt z i (gt s j)) (by rw [stt_length]; exact hi), take_snoc ⟨by omega, hj⟩, List.filter_append, ← h.tk]
    congr 1
    · unfold stt; rw [List.take_set_of_le (Nat.le_refl _)]
    · rw [gt_stt _ _ hi h0, if_pos rfl]; simp [hk]
  · rw [gt_stt _ _ hi (by omega), if_neg (by omega)]
    exact h.rest k (by omega) b
theorem DelI.start (h : inb i s.length) (hk : keep (gt s i) = false) (ha : ∀ k, 0 ≤ k → k < i → keep (gt s k) = true) : DelI keep s s i (i + 1) := by
  obtain ⟨h0, h1⟩ := h
  refine ⟨rfl, h0, by omega, by omega, ?_, fun _ _ _ => rfl⟩
  rw [take_snoc ⟨h0, h1⟩, List.filter_append]
  have : (s.take i.toNat).filter keep = s.take i.toNat := List.filter_eq_self.2 fun x hx => by
    obtain ⟨k, hk, rfl⟩ := List.getElem_of_mem hx
    rw [List.length_take] at hk
    rw [List.getElem_take, ← gt_nth (by omega)]
    exact ha k (by omega) (by omega)
  rw [this]; simp [hk]
theorem DelI.end (h : DelI keep s z i j) (hj : j = s.length) (d : α) : sub (z.take i.toNat ++ List.replicate (z.length - i.toNat) d) 0 i = s.filter keep := by
  have h0 := h.i0
  have h1 := h.ij
  have hl := h.len
  have ht := h.tk
  rw [List.take_of_length_le (l := s) (by omega)] at ht
  unfold sub
  simp only [Int.toNat_zero, List.drop_zero, Nat.sub_zero]
  rw [List.take_append_of_le_length (by rw [List.length_take]; omega), List.take_take, Nat.min_self, ht]
end
/-- What a search for the first that is not kept finds. -/
def IdxR {α : Type} [Inhabited α] (keep : α → Bool) (s : List α) (r : Int) : Prop := r = -1 ∧ (∀ x ∈ s, keep x = true) ∨ inb r s.length ∧ keep (gt s r) = false ∧ ∀ k, 0 ≤ k → k < r → keep (gt s k) = true
theorem idx_all {α : Type} [Inhabited α] {keep : α → Bool} {s : List α} {y : Int} (hy : (s.length : Int) ≤ y) (h : ∀ k, 0 ≤ k → k < y → keep (gt s k) = true) : ∀ x ∈ s, keep x = true := fun x hx => by
  obtain ⟨k, hk, rfl⟩ := List.getElem_of_mem hx
  rw [← gt_nth hk]; exact h k (by omega) (by omega)
/-! the three kinds of spots -/
def onL (v : Int) (s : T_rules_shape) : List T_rules_Spot := s.fspots.filter fun p => decide (p.Layer = v)
def upL (v : Int) (s : T_rules_shape) : List T_rules_Spot := if ∀ p ∈ s.fspots, p.Layer ≤ v then s.fspots else []
def allS (s : T_rules_shape) : List T_rules_Spot := s.fspots
theorem spotIdx_ok {s : List T_rules_Spot} (hs : s.length ≤ 1000) (v : Int) : Ok (P_slices_IndexFunc_rules_Spot_rules_Spot s v) (fun r => IdxR (fun p : T_rules_Spot => decide (p.Layer = v)) s r) := by
  unfold P_slices_IndexFunc_rules_Spot_rules_Spot
  refine ok_bs (R := fun o => match o with | .inl _ => ∀ x ∈ s, decide (x.Layer = v) = true | .inr r => IdxR (fun p : T_rules_Spot => decide (p.Layer = v)) s r) ?_ (fun _ h => ok_some (.inl ⟨rfl, h⟩)) (fun r h => ok_some h)
  refine ok_lp (fun y => 0 ≤ y ∧ ∀ k, 0 ≤ k → k < y → decide ((gt s k).Layer = v) = true) (fun y => ((s.length : Int) - y).toNat) ⟨by omega, fun k a b => by omega⟩ (by omega) ?_
  rintro y ⟨y0, hy⟩
  unfold P_slices_IndexFunc_rules_Spot_rules_Spot_L2
  refine ok_ite (fun hlt => ok_ck ⟨y0, hlt⟩ (ok_lv ?_)) (fun hge => ok_some (idx_all (y := y) (by omega) hy))
  unfold P_rules_small_1_1
  refine ok_bd (R := fun _ => True) (ok_some trivial) fun _ _ => ok_ite (fun hne => ok_some (.inr ⟨⟨y0, hlt⟩, by simpa using hne, hy⟩)) (fun he => ok_ar (by unfold I64; omega) (ok_some ⟨⟨by omega, fun k a b => ?_⟩, by omega⟩))
  by_cases q : k = y
  · subst q; simpa using he
  · exact hy k a (by omega)
theorem spotDel_ok {s : List T_rules_Spot} (hs : s.length ≤ 1000) (v : Int) : Ok (P_slices_DeleteFunc_rules_Spot_rules_Spot s v) (fun r => r = s.filter fun p : T_rules_Spot => decide (p.Layer = v)) := by
  unfold P_slices_DeleteFunc_rules_Spot_rules_Spot
  refine ok_bd (spotIdx_ok hs v) fun r hr => ok_ite (fun he => ok_some ?_) (fun hne => ?_)
  · rcases hr with ⟨_, h⟩ | ⟨⟨h, _⟩, _⟩
    · exact (List.filter_eq_self.2 h).symm
    · omega
  · rcases hr with ⟨h, _⟩ | ⟨hb, h1, h2⟩
    · exact absurd h hne
    · have hst := DelI.start (keep := fun p : T_rules_Spot => decide (p.Layer = v)) hb h1 h2
      obtain ⟨b0, b1⟩ := hb
      refine ok_ar (by unfold I64; omega) (ok_bd (R := fun q => DelI (fun p : T_rules_Spot => decide (p.Layer = v)) s q.1 q.2 s.length) ?_ ?_)
      · refine ok_lp (fun q => DelI (fun p : T_rules_Spot => decide (p.Layer = v)) s q.1 q.2.1 q.2.2) (fun q => ((s.length : Int) - q.2.2).toNat) hst (by dsimp only; omega) ?_
        rintro ⟨z, i, j⟩ hI
        dsimp only at hI
        have hl := hI.len
        have i0 := hI.i0
        have ij := hI.ij
        unfold P_slices_DeleteFunc_rules_Spot_rules_Spot_L5
        dsimp only
        refine ok_ite (fun hlt => ok_ck ⟨by omega, by omega⟩ (ok_lv ?_)) (fun hge => ok_some ?_)
        · unfold P_rules_small_1_1
          rw [hI.rest j (Int.le_refl _) hlt]
          refine ok_bd (R := fun _ => True) (ok_some trivial) fun _ _ => ok_bd (R := fun q => DelI (fun p : T_rules_Spot => decide (p.Layer = v)) s q.1 q.2 (j + 1)) (ok_ite (fun hk => ?_) (fun hk => ok_some ?_)) fun q hq => ok_ar (by unfold I64; omega) (ok_some ⟨hq, by dsimp only; omega⟩)
          · exact ok_ck ⟨by omega, by omega⟩ (ok_lv (ok_ar (by unfold I64; omega) (ok_some (hI.kept hlt (by simpa using hk)))))
          · exact hI.drop hlt (by simpa using hk)
        · have : j = s.length := by have := hI.jn; omega
          subst this; exact hI
      · rintro ⟨z, i⟩ hI
        dsimp only at hI
        have hl := hI.len
        have i0 := hI.i0
        have ij := hI.ij
        refine ok_ck ⟨i0, by omega⟩ (ok_lv (ok_ck ⟨by omega, i0, ?_⟩ (ok_lv (ok_some (hI.end rfl _)))))
        simp only [List.length_append, List.length_take, List.length_replicate]; omega
theorem small1_ok {s : T_rules_shape} (hs : s.fspots.length ≤ 1000) (v : Int) : Ok (P_rules_small_1 s v) (fun r => r = onL v s) := by
  unfold P_rules_small_1 P_slices_Clone_rules_Spot_rules_Spot
  refine ok_bd (R := fun r => r = s.fspots) (ok_lv (ok_ck (by simp only [List.nil_append, apOk]; omega) (ok_some rfl))) ?_
  rintro _ rfl
  exact ok_bd (spotDel_ok hs v) fun r hr => ok_some hr
theorem up_ok {s : T_rules_shape} (hs : s.fspots.length ≤ 1000) (v : Int) : Ok (P_rules_antenna_1 s v) (fun r => r = upL v s) := by
  unfold P_rules_antenna_1
  refine ok_bs (R := fun o => match o with | .inl _ => ∀ p ∈ s.fspots, p.Layer ≤ v | .inr r => r = upL v s) ?_ (fun _ h => ok_some (by unfold upL; rw [if_pos h])) (fun r h => ok_some h)
  refine ok_lp (fun y => 0 ≤ y ∧ ∀ k, 0 ≤ k → k < y → decide ((gt s.fspots k).Layer ≤ v) = true) (fun y => ((s.fspots.length : Int) - y).toNat) ⟨by omega, fun k a b => by omega⟩ (by omega) ?_
  rintro y ⟨y0, hy⟩
  unfold P_rules_antenna_1_L2
  refine ok_ite (fun hlt => ok_ck ⟨y0, hlt⟩ (ok_lv (ok_ite (fun hne => ok_some ?_) (fun he => ok_ar (by unfold I64; omega) (ok_some ⟨⟨by omega, fun k a b => ?_⟩, by omega⟩))))) (fun hge => ok_some ?_)
  · show [] = upL v s
    unfold upL; rw [if_neg]
    intro h
    have := h _ (gt_mem ⟨y0, hlt⟩); omega
  · by_cases q : k = y
    · subst q; rw [decide_eq_true_eq]; omega
    · exact hy k a (by omega)
  · intro p hp
    have := idx_all (keep := fun p : T_rules_Spot => decide (p.Layer ≤ v)) (s := s.fspots) (y := y) (by omega) hy p hp
    simpa using this
/-! groups -/
section
variable {sh : List T_rules_shape} (hn : sh.length ≤ 1000) (hs : ∀ s ∈ sh, s.fspots.length ≤ 1000)
theorem grp3_ok {n : Nat} (hn : n ≤ 1000) {z : List Int} (hz : z.length = n) : Ok (lp (P_rules_groups_L3 z) fuel (0, z)) (fun r => UF n r ∧ ∀ i : Nat, i < n → rt r i = i) := by
  refine ok_lp (fun s => (0 ≤ s.1 ∧ s.1 ≤ n) ∧ s.2.length = n ∧ ∀ i : Nat, (i : Int) < s.1 → gt s.2 (i : Int) = i) (fun s => ((n : Int) - s.1).toNat) ⟨⟨by simp, by simp⟩, hz, fun i h => by simp only at h; omega⟩ (by simp only; omega) ?_
  rintro ⟨y, u⟩ ⟨⟨y0, y1⟩, hl, hu⟩
  dsimp only at y0 y1 hl hu
  unfold P_rules_groups_L3
  dsimp only
  refine ok_ite (fun hlt => ok_ck ⟨y0, by omega⟩ (ok_lv (ok_ar (by unfold I64; omega) (ok_some ⟨⟨⟨by dsimp only; omega, by dsimp only; omega⟩, by dsimp only; rw [stt_length]; exact hl, fun i hi => ?_⟩, by dsimp only; omega⟩)))) (fun hge => ok_some ⟨⟨hl, fun i hi => ?_⟩, fun i hi => ?_⟩)
  · dsimp only at hi ⊢
    rw [gt_stt _ _ ⟨y0, by omega⟩ (by omega)]
    split
    · omega
    · exact hu i (by omega)
  · have := hu i (by omega); omega
  · exact rt_root (by have := hu i (by omega); omega)
theorem GI.start {g : T_rules_shape → List T_rules_Spot} {u : List Int} (h : UF sh.length u ∧ ∀ i : Nat, i < sh.length → rt u i = i) : GI sh g [] u (fun _ _ => False) :=
  ⟨h.1, fun i hi => .inl (h.2 i hi).symm, fun k hk => by simp [mhas, mfind] at hk, fun _ _ _ h => h.elim⟩
include hn hs
theorem groups_ok (v : Int) : Ok (P_rules_groups sh v) (fun r => GrpOk sh (onL v) r) := by
  have hg : ∀ s ∈ sh, ((onL v) s).length ≤ 1000 := fun s h => Nat.le_trans (List.length_filter_le _ _) (hs s h)
  unfold P_rules_groups
  refine ok_ck (by simp only [mkOk]; omega) (ok_lv (ok_bd (R := fun r => UF sh.length r ∧ ∀ i : Nat, i < sh.length → rt r i = i) (grp3_ok hn (by simp)) fun u hu => ok_bd (R := fun u => ∃ first, GI sh (onL v) first u (fun i p => p ∈ (onL v) (gt sh (i : Int)))) ?_ fun u hu => ok_ck (by simp only [mkOk]; omega) (ok_lv (ok_bd (R := fun r => GrpOk sh (onL v) r) ?_ fun r hr => ok_some hr))))
  · refine ok_lp (fun s => (0 ≤ s.2.1 ∧ s.2.1 ≤ sh.length) ∧ GI sh (onL v) s.1 s.2.2 (fun i p => (i : Int) < s.2.1 ∧ p ∈ (onL v) (gt sh (i : Int)))) (fun s => ((sh.length : Int) - s.2.1).toNat) ⟨⟨by simp, by simp⟩, (GI.start hu).mono fun i p _ h => by have := h.1; dsimp only at this; omega⟩ (by simp only; omega) ?_
    rintro ⟨f, y, u⟩ ⟨⟨y0, y1⟩, hI⟩
    dsimp only at y0 y1 hI
    obtain ⟨k, rfl⟩ := Int.eq_ofNat_of_zero_le y0
    unfold P_rules_groups_L10
    dsimp only
    refine ok_ite (fun hlt => ok_ck ⟨y0, hlt⟩ (ok_lv ?_)) (fun hge => ok_some ⟨f, hI.mono fun i p hi h => ⟨by omega, h⟩⟩)
    have hk : k < sh.length := by omega
    have hm := sh_mem hk
    refine ok_bd (small1_ok (hs _ hm) v) ?_
    rintro _ rfl
    refine ok_bd (R := fun r => GI sh (onL v) r.1 r.2 (fun j p => ((j : Int) < (k : Int) ∧ p ∈ (onL v) (gt sh (j : Int))) ∨ j = k ∧ p ∈ (onL v) (gt sh (k : Int)))) (grp13_ok hI hn hk (hg _ hm)) fun q hq => ok_ar (by unfold I64; omega) (ok_some ⟨⟨⟨by dsimp only; omega, by dsimp only; omega⟩, hq.mono fun i p hi h => ?_⟩, by dsimp only; omega⟩)
    by_cases e : i = k
    · subst e; exact .inr ⟨rfl, h.2⟩
    · exact .inl ⟨by have := h.1; dsimp only at this; omega, h.2⟩
  · obtain ⟨first, hI⟩ := hu
    exact grp26_ok hI.uf hn (fun i j hi hj => hI.roots hi hj) (by simp)
theorem groups_2_ok : Ok (P_rules_groups_2 sh) (fun r => GrpOk sh (allS) r) := by
  have hg : ∀ s ∈ sh, ((allS) s).length ≤ 1000 := fun s h => hs s h
  unfold P_rules_groups_2
  refine ok_ck (by simp only [mkOk]; omega) (ok_lv (ok_bd (R := fun r => UF sh.length r ∧ ∀ i : Nat, i < sh.length → rt r i = i) (by rw [show @P_rules_groups_2_L3 = @P_rules_groups_L3 from rfl]; exact grp3_ok hn (by simp)) fun u hu => ok_bd (R := fun u => ∃ first, GI sh (allS) first u (fun i p => p ∈ (allS) (gt sh (i : Int)))) ?_ fun u hu => ok_ck (by simp only [mkOk]; omega) (ok_lv (ok_bd (R := fun r => GrpOk sh (allS) r) ?_ fun r hr => ok_some hr))))
  · refine ok_lp (fun s => (0 ≤ s.2.1 ∧ s.2.1 ≤ sh.length) ∧ GI sh (allS) s.1 s.2.2 (fun i p => (i : Int) < s.2.1 ∧ p ∈ (allS) (gt sh (i : Int)))) (fun s => ((sh.length : Int) - s.2.1).toNat) ⟨⟨by simp, by simp⟩, (GI.start hu).mono fun i p _ h => by have := h.1; dsimp only at this; omega⟩ (by simp only; omega) ?_
    rintro ⟨f, y, u⟩ ⟨⟨y0, y1⟩, hI⟩
    dsimp only at y0 y1 hI
    obtain ⟨k, rfl⟩ := Int.eq_ofNat_of_zero_le y0
    unfold P_rules_groups_2_L10
    dsimp only
    refine ok_ite (fun hlt => ok_ck ⟨y0, hlt⟩ (ok_lv ?_)) (fun hge => ok_some ⟨f, hI.mono fun i p hi h => ⟨by omega, h⟩⟩)
    have hk : k < sh.length := by omega
    have hm := sh_mem hk
    refine ok_bd (R := fun _ => True) (by unfold P_rules_open_1; exact ok_some trivial) fun _ _ => ?_
    refine ok_bd (R := fun r => GI sh (allS) r.1 r.2 (fun j p => ((j : Int) < (k : Int) ∧ p ∈ (allS) (gt sh (j : Int))) ∨ j = k ∧ p ∈ (allS) (gt sh (k : Int)))) (by rw [show P_rules_groups_2_L13 (gt sh (k : Int)) (k : Int) = P_rules_groups_L13 (gt sh (k : Int)) (allS (gt sh (k : Int))) (k : Int) from rfl]; exact grp13_ok hI hn hk (hg _ hm)) fun q hq => ok_ar (by unfold I64; omega) (ok_some ⟨⟨⟨by dsimp only; omega, by dsimp only; omega⟩, hq.mono fun i p hi h => ?_⟩, by dsimp only; omega⟩)
    by_cases e : i = k
    · subst e; exact .inr ⟨rfl, h.2⟩
    · exact .inl ⟨by have := h.1; dsimp only at this; omega, h.2⟩
  · obtain ⟨first, hI⟩ := hu
    exact (by rw [show @P_rules_groups_2_L26 = @P_rules_groups_L26 from rfl]; exact grp26_ok hI.uf hn (fun i j hi hj => hI.roots hi hj) (by simp))
theorem groups_3_ok (v : Int) : Ok (P_rules_groups_3 sh v) (fun r => GrpOk sh (upL v) r) := by
  have hg : ∀ s ∈ sh, ((upL v) s).length ≤ 1000 := fun s h => by unfold upL; split; exact hs s h; simp
  unfold P_rules_groups_3
  refine ok_ck (by simp only [mkOk]; omega) (ok_lv (ok_bd (R := fun r => UF sh.length r ∧ ∀ i : Nat, i < sh.length → rt r i = i) (by rw [show @P_rules_groups_3_L3 = @P_rules_groups_L3 from rfl]; exact grp3_ok hn (by simp)) fun u hu => ok_bd (R := fun u => ∃ first, GI sh (upL v) first u (fun i p => p ∈ (upL v) (gt sh (i : Int)))) ?_ fun u hu => ok_ck (by simp only [mkOk]; omega) (ok_lv (ok_bd (R := fun r => GrpOk sh (upL v) r) ?_ fun r hr => ok_some hr))))
  · refine ok_lp (fun s => (0 ≤ s.2.1 ∧ s.2.1 ≤ sh.length) ∧ GI sh (upL v) s.1 s.2.2 (fun i p => (i : Int) < s.2.1 ∧ p ∈ (upL v) (gt sh (i : Int)))) (fun s => ((sh.length : Int) - s.2.1).toNat) ⟨⟨by simp, by simp⟩, (GI.start hu).mono fun i p _ h => by have := h.1; dsimp only at this; omega⟩ (by simp only; omega) ?_
    rintro ⟨f, y, u⟩ ⟨⟨y0, y1⟩, hI⟩
    dsimp only at y0 y1 hI
    obtain ⟨k, rfl⟩ := Int.eq_ofNat_of_zero_le y0
    unfold P_rules_groups_3_L10
    dsimp only
    refine ok_ite (fun hlt => ok_ck ⟨y0, hlt⟩ (ok_lv ?_)) (fun hge => ok_some ⟨f, hI.mono fun i p hi h => ⟨by omega, h⟩⟩)
    have hk : k < sh.length := by omega
    have hm := sh_mem hk
    refine ok_bd (up_ok (hs _ hm) v) ?_
    rintro _ rfl
    refine ok_bd (R := fun r => GI sh (upL v) r.1 r.2 (fun j p => ((j : Int) < (k : Int) ∧ p ∈ (upL v) (gt sh (j : Int))) ∨ j = k ∧ p ∈ (upL v) (gt sh (k : Int)))) (by rw [show @P_rules_groups_3_L13 = @P_rules_groups_L13 from rfl]; exact grp13_ok hI hn hk (hg _ hm)) fun q hq => ok_ar (by unfold I64; omega) (ok_some ⟨⟨⟨by dsimp only; omega, by dsimp only; omega⟩, hq.mono fun i p hi h => ?_⟩, by dsimp only; omega⟩)
    by_cases e : i = k
    · subst e; exact .inr ⟨rfl, h.2⟩
    · exact .inl ⟨by have := h.1; dsimp only at this; omega, h.2⟩
  · obtain ⟨first, hI⟩ := hu
    exact (by rw [show @P_rules_groups_3_L26 = @P_rules_groups_L26 from rfl]; exact grp26_ok hI.uf hn (fun i j hi hj => hI.roots hi hj) (by simp))
end
end Go.Proofs.Ytnnmbmgnpdcefaa.X
