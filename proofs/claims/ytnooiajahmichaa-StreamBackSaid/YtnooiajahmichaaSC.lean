/- The configurations of a stream are valid: array.Check. Plain. -/
import Derived.Test.YtnooiajahmichaaSP
import Derived.Test.YtnooiajahmichaaSA
namespace Go.Proofs.Ytnooiajahmichaa.X
open Go Go.RowKit
set_option linter.unusedVariables false
theorem gt_snocP {α : Type} [Inhabited α] {xs : List α} {x : α} {i : Int} (h : inb i (xs ++ [x]).length) : (inb i xs.length ∧ gt (xs ++ [x]) i = gt xs i) ∨ (i = xs.length ∧ gt (xs ++ [x]) i = x) := by
  obtain ⟨h0, h1⟩ := h
  simp only [List.length_append, List.length_singleton] at h1
  by_cases e : i = xs.length
  · exact .inr ⟨e, gt_app_1 e⟩
  · exact .inl ⟨⟨h0, by omega⟩, gt_app_l (by omega)⟩
def Each {α : Type} [Inhabited α] (p : Int → α → Prop) (xs : List α) : Prop := ∀ i, inb i xs.length → p i (gt xs i)
theorem Each.nil {α : Type} [Inhabited α] {p : Int → α → Prop} : Each p [] := fun i hi => by obtain ⟨a, b⟩ := hi; simp at b; omega
theorem Each.snoc {α : Type} [Inhabited α] {p : Int → α → Prop} {xs : List α} {x : α} (h : Each p xs) (hx : p xs.length x) : Each p (xs ++ [x]) := by
  intro i hi
  rcases gt_snocP hi with ⟨h1, e⟩ | ⟨h1, e⟩
  · rw [e]; exact h i h1
  · rw [e, h1]; exact hx
/-- What feeds an input of a table: nothing, its flip-flop, the west, the north. -/
def InOk (T x : Int) : Prop := x = 0 ∨ x = 1 + 4 * T ∨ (1 + 3 * T ≤ x ∧ x < 1 + 4 * T) ∨ (1 ≤ x ∧ x < 1 + T)
def OutES (x : Int) : Prop := x = 0 ∨ x = 1 ∨ x = 2 ∨ x = 6 ∨ x = 3
def OutNW (x : Int) : Prop := x = 0 ∨ x = 2
structure TileOk (T : Int) (t : T_array_Tile) : Prop where
  table : 0 ≤ t.Table ∧ t.Table < 65536
  i0 : InOk T t.In.fe0
  i1 : InOk T t.In.fe1
  i2 : InOk T t.In.fe2
  i3 : InOk T t.In.fe3
  l0 : (t.Out.fe0.length : Int) = T
  l1 : (t.Out.fe1.length : Int) = T
  l2 : (t.Out.fe2.length : Int) = T
  l3 : (t.Out.fe3.length : Int) = T
  o0 : Each (fun _ x => OutNW x) t.Out.fe0
  o1 : Each (fun _ x => OutES x) t.Out.fe1
  o2 : Each (fun _ x => OutES x) t.Out.fe2
  o3 : Each (fun _ x => OutNW x) t.Out.fe3
/-- A configuration of a stream. -/
structure ConfOk (c : T_array_Config) : Prop where
  rows : 1 ≤ c.Rows ∧ c.Rows ≤ 3
  cols : 1 ≤ c.Cols ∧ c.Cols ≤ 3
  tracks : 2 ≤ c.Tracks ∧ c.Tracks ≤ 3
  tilesL : (c.Tiles.length : Int) = c.Rows * c.Cols
  tile : Each (fun _ t => TileOk c.Tracks t) c.Tiles
  inL : c.Tracks ≤ c.In.length ∧ (c.In.length : Int) ≤ c.Tracks + 1
  outL : (c.Out.length : Int) = c.Tracks
  in_ : Each (fun i p => if i < c.Tracks then (0 ≤ p.Row ∧ p.Row < c.Rows) ∧ p.Col = 0 ∧ p.Side = 3 ∧ p.Track = i else p.Row = 0 ∧ (0 ≤ p.Col ∧ p.Col < c.Cols) ∧ p.Side = 0 ∧ 0 ≤ p.Track ∧ p.Track < c.Tracks) c.In
  out : Each (fun i p => (0 ≤ p.Row ∧ p.Row < c.Rows) ∧ p.Col = c.Cols - 1 ∧ p.Side = 1 ∧ p.Track = i) c.Out
theorem pick_ok {L : List Int} (hL : Strm L) {k : Int} (hk : Few k) {xs : List Int} (h0 : xs ≠ []) (hl : xs.length ≤ 100) : Ok (P_maskmake_Stream_Pick (T_maskmake_Stream.mk L k) xs) (fun r => r.1 ∈ xs ∧ r.2 = k + 1) := by
  unfold P_maskmake_Stream_Pick
  have hp : 0 < xs.length := List.length_pos_iff.2 h0
  refine ok_bd (hL.next hk (by omega)) ?_
  rintro ⟨i, k2⟩ ⟨i0, i1, -, rfl⟩
  have i1 := i1 (by omega)
  simp only at i0 i1
  exact ok_ck ⟨i0, i1⟩ (ok_lv (ok_some ⟨gt_mem ⟨i0, i1⟩, rfl⟩))
/-- One input of a table. -/
theorem inp_ok {L : List Int} (hL : Strm L) {k T : Int} (hk : Few (k + 5)) (hk0 : 0 ≤ k) (hT : 2 ≤ T ∧ T ≤ 3) {β : Type} {Q : β → Prop} {f : Int × Int → Option β} (s0 : T_maskmake_Stream) (hs : s0.L = L)
    (h : ∀ k' x, k < k' → k' ≤ k + 2 → InOk T x → Ok (f (k', x)) Q) :
    Ok (bd (P_maskmake_Stream_Next (T_maskmake_Stream.mk s0.L k) 5) fun r8 =>
      bd (
        if r8.1 = 0 then
          ar ((4 : Int) * T) fun x39 =>
          ar ((1 : Int) + x39) fun x40 =>
          some (r8.2, x40)
        else
          bd (
            if r8.1 = 1 then
              some (decide (r8.1 = 1))
            else
              some (decide (r8.1 = 2))) fun y43 =>
          bd (
            if y43 = true then
              ar ((3 : Int) * T) fun x49 =>
              ar ((1 : Int) + x49) fun x50 =>
              bd (P_maskmake_Stream_Next (T_maskmake_Stream.mk s0.L r8.2) T) fun r13 =>
              ar (x50 + r13.1) fun x55 =>
              some (r13.2, x55)
            else
              bd (
                if r8.1 = 3 then
                  ar ((0 : Int) * T) fun x63 =>
                  ar ((1 : Int) + x63) fun x64 =>
                  bd (P_maskmake_Stream_Next (T_maskmake_Stream.mk s0.L r8.2) T) fun r15 =>
                  ar (x64 + r15.1) fun x69 =>
                  some (r15.2, x69)
                else
                  some (r8.2, (0 : Int))) fun (a, b) =>
              some (a, b)) fun (a, b) =>
          some (a, b)) f) Q := by
  rw [hs]
  refine ok_bd (hL.next (by omega) (by omega)) ?_
  rintro ⟨a, k1⟩ ⟨a0, a1, -, rfl⟩
  dsimp only
  refine ok_bd_ite (fun _ => ok_bd_ar (by omega) (ok_bd_ar (by omega) (ok_bd_some (h _ _ (by omega) (by omega) (.inr (.inl rfl)))))) fun _ => ?_
  refine ok_bd_bd (ok_bd (R := fun _ => True) (ok_ite (fun _ => ok_some trivial) fun _ => ok_some trivial) ?_)
  rintro y -
  refine ok_bd_bd (ok_bd_ite (fun _ => ?_) fun _ => ?_)
  · refine ok_bd_ar (by omega) (ok_bd_ar (by omega) (ok_bd_bd (ok_bd (hL.next (by omega) (by omega)) ?_)))
    rintro ⟨b, k2⟩ ⟨b0, b1, -, rfl⟩
    have b1 := b1 (by omega)
    simp only at b0 b1
    exact ok_bd_ar (by simp only; omega) (ok_bd_some (ok_bd_some (h _ _ (by omega) (by omega) (.inr (.inr (.inl (by omega)))))))
  · refine ok_bd_bd (ok_bd_ite (fun _ => ?_) fun _ => ok_bd_some (ok_bd_some (ok_bd_some (h _ _ (by omega) (by omega) (.inl rfl)))))
    refine ok_bd_ar (by omega) (ok_bd_ar (by omega) (ok_bd_bd (ok_bd (hL.next (by omega) (by omega)) ?_)))
    rintro ⟨b, k2⟩ ⟨b0, b1, -, rfl⟩
    have b1 := b1 (by omega)
    simp only at b0 b1
    exact ok_bd_ar (by simp only; omega) (ok_bd_some (ok_bd_some (ok_bd_some (h _ _ (by omega) (by omega) (.inr (.inr (.inr (by omega))))))))
theorem out0_ok {L : List Int} (hL : Strm L) {k T : Int} (hk : Few (k + 20)) (hk0 : 0 ≤ k) (hT : 2 ≤ T ∧ T ≤ 3) (s0 : T_maskmake_Stream) (hs : s0.L = L) (q : Int) : Ok (lp (P_maskmake_Stream_Config_L21u4 s0 (T, q)) fuel (0, k, [])) (fun r => k ≤ r.1 ∧ r.1 ≤ k + 6 ∧ (r.2.length : Int) = T ∧ Each (fun _ x => OutNW x) r.2) := by
  refine ok_lp (fun s => 0 ≤ s.1 ∧ s.1 ≤ T ∧ s.2.1 = k + 2 * s.1 ∧ (s.2.2.length : Int) = s.1 ∧ Each (fun _ x => OutNW x) s.2.2) (fun s => (T - s.1).toNat) ⟨by simp, by simp only; omega, by simp, by simp, Each.nil⟩ (by simp only; omega) ?_
  rintro ⟨y, q1, xs⟩ ⟨y0, y1, y2, y3, y4⟩
  simp only at y0 y1 y2 y3 y4
  unfold P_maskmake_Stream_Config_L21u4
  dsimp only
  rw [hs]
  refine ok_ite (fun hlt => ok_bd (pick_ok hL (by omega) (by simp) (by simp)) ?_) fun hge => ok_some ⟨by simp only; omega, by simp only; omega, by simp only; omega, y4⟩
  rintro ⟨a, q2⟩ ⟨ha, rfl⟩
  refine ok_bd (R := fun _ => True) (ok_ite (fun _ => ok_some trivial) fun _ => ok_some trivial) fun _ _ => ok_bd (pick_ok hL (by simp only; omega) (by simp) (by simp)) ?_
  rintro ⟨b, q3⟩ ⟨hb, rfl⟩
  simp only [List.mem_cons, List.not_mem_nil, or_false] at hb
  refine ok_lv (ok_ck ?_ (ok_ar (by omega) (ok_some ⟨⟨by simp only; omega, by simp only; omega, by simp only; omega, by simp only [List.length_append, List.length_singleton]; omega, y4.snoc hb⟩, by simp only; omega⟩)))
  simp only [List.length_append, List.length_singleton]; omega
theorem out1_ok {L : List Int} (hL : Strm L) {k T : Int} (hk : Few (k + 20)) (hk0 : 0 ≤ k) (hT : 2 ≤ T ∧ T ≤ 3) (s0 : T_maskmake_Stream) (hs : s0.L = L) (q : Int) : Ok (lp (P_maskmake_Stream_Config_L21u3 s0 (T, q)) fuel (0, k, [])) (fun r => k ≤ r.1 ∧ r.1 ≤ k + 6 ∧ (r.2.length : Int) = T ∧ Each (fun _ x => OutES x) r.2) := by
  refine ok_lp (fun s => 0 ≤ s.1 ∧ s.1 ≤ T ∧ s.2.1 = k + s.1 ∧ (s.2.2.length : Int) = s.1 ∧ Each (fun _ x => OutES x) s.2.2) (fun s => (T - s.1).toNat) ⟨by simp, by simp only; omega, by simp, by simp, Each.nil⟩ (by simp only; omega) ?_
  rintro ⟨y, q1, xs⟩ ⟨y0, y1, y2, y3, y4⟩
  simp only at y0 y1 y2 y3 y4
  unfold P_maskmake_Stream_Config_L21u3
  dsimp only
  rw [hs]
  refine ok_ite (fun hlt => ok_bd (pick_ok hL (by omega) (by simp) (by simp)) ?_) fun hge => ok_some ⟨by simp only; omega, by simp only; omega, by simp only; omega, y4⟩
  rintro ⟨a, q2⟩ ⟨ha, rfl⟩
  simp only [List.mem_cons, List.not_mem_nil, or_false] at ha
  refine ok_bd (R := fun x => OutES x) (ok_ite (fun _ => ok_some (.inr (.inr (.inl rfl)))) fun _ => ok_some ha) fun b hb => ?_
  refine ok_lv (ok_ck ?_ (ok_ar (by omega) (ok_some ⟨⟨by simp only; omega, by simp only; omega, by simp only; omega, by simp only [List.length_append, List.length_singleton]; omega, y4.snoc hb⟩, by simp only; omega⟩)))
  simp only [List.length_append, List.length_singleton]; omega
theorem out2_ok {L : List Int} (hL : Strm L) {k T : Int} (hk : Few (k + 20)) (hk0 : 0 ≤ k) (hT : 2 ≤ T ∧ T ≤ 3) (s0 : T_maskmake_Stream) (hs : s0.L = L) (q : Int) : Ok (lp (P_maskmake_Stream_Config_L21u2 s0 (T, q)) fuel (0, k, [])) (fun r => k ≤ r.1 ∧ r.1 ≤ k + 6 ∧ (r.2.length : Int) = T ∧ Each (fun _ x => OutES x) r.2) := by
  refine ok_lp (fun s => 0 ≤ s.1 ∧ s.1 ≤ T ∧ s.2.1 = k + s.1 ∧ (s.2.2.length : Int) = s.1 ∧ Each (fun _ x => OutES x) s.2.2) (fun s => (T - s.1).toNat) ⟨by simp, by simp only; omega, by simp, by simp, Each.nil⟩ (by simp only; omega) ?_
  rintro ⟨y, q1, xs⟩ ⟨y0, y1, y2, y3, y4⟩
  simp only at y0 y1 y2 y3 y4
  unfold P_maskmake_Stream_Config_L21u2
  dsimp only
  rw [hs]
  refine ok_ite (fun hlt => ok_bd (pick_ok hL (by omega) (by simp) (by simp)) ?_) fun hge => ok_some ⟨by simp only; omega, by simp only; omega, by simp only; omega, y4⟩
  rintro ⟨a, q2⟩ ⟨ha, rfl⟩
  simp only [List.mem_cons, List.not_mem_nil, or_false] at ha
  refine ok_bd (R := fun x => OutES x) (ok_ite (fun _ => ok_some (.inr (.inr (.inl rfl)))) fun _ => ok_some ha) fun b hb => ?_
  refine ok_lv (ok_ck ?_ (ok_ar (by omega) (ok_some ⟨⟨by simp only; omega, by simp only; omega, by simp only; omega, by simp only [List.length_append, List.length_singleton]; omega, y4.snoc hb⟩, by simp only; omega⟩)))
  simp only [List.length_append, List.length_singleton]; omega
theorem out3_ok {L : List Int} (hL : Strm L) {k T : Int} (hk : Few (k + 20)) (hk0 : 0 ≤ k) (hT : 2 ≤ T ∧ T ≤ 3) (s0 : T_maskmake_Stream) (hs : s0.L = L) (q : Int) : Ok (lp (P_maskmake_Stream_Config_L21u1 s0 (T, q)) fuel (0, k, [])) (fun r => k ≤ r.1 ∧ r.1 ≤ k + 6 ∧ (r.2.length : Int) = T ∧ Each (fun _ x => OutNW x) r.2) := by
  refine ok_lp (fun s => 0 ≤ s.1 ∧ s.1 ≤ T ∧ s.2.1 = k + 2 * s.1 ∧ (s.2.2.length : Int) = s.1 ∧ Each (fun _ x => OutNW x) s.2.2) (fun s => (T - s.1).toNat) ⟨by simp, by simp only; omega, by simp, by simp, Each.nil⟩ (by simp only; omega) ?_
  rintro ⟨y, q1, xs⟩ ⟨y0, y1, y2, y3, y4⟩
  simp only at y0 y1 y2 y3 y4
  unfold P_maskmake_Stream_Config_L21u1
  dsimp only
  rw [hs]
  refine ok_ite (fun hlt => ok_bd (pick_ok hL (by omega) (by simp) (by simp)) ?_) fun hge => ok_some ⟨by simp only; omega, by simp only; omega, by simp only; omega, y4⟩
  rintro ⟨a, q2⟩ ⟨ha, rfl⟩
  refine ok_bd (R := fun _ => True) (ok_ite (fun _ => ok_some trivial) fun _ => ok_some trivial) fun _ _ => ok_bd (pick_ok hL (by simp only; omega) (by simp) (by simp)) ?_
  rintro ⟨b, q3⟩ ⟨hb, rfl⟩
  simp only [List.mem_cons, List.not_mem_nil, or_false] at hb
  refine ok_lv (ok_ck ?_ (ok_ar (by omega) (ok_some ⟨⟨by simp only; omega, by simp only; omega, by simp only; omega, by simp only [List.length_append, List.length_singleton]; omega, y4.snoc hb⟩, by simp only; omega⟩)))
  simp only [List.length_append, List.length_singleton]; omega
theorem Config_ok {L : List Int} (hL : Strm L) : Ok (P_maskmake_Stream_Config (T_maskmake_Stream.mk L 0)) (fun r => ConfOk r.1 ∧ 0 ≤ r.2 ∧ r.2 ≤ 2000) := by
  unfold P_maskmake_Stream_Config
  refine ok_bd (hL.range (by omega) (by omega) (by omega) (by omega)) ?_
  rintro ⟨R, k1⟩ ⟨R0, R1, rfl⟩
  refine ok_bd (hL.range (by simp only; omega) (by omega) (by omega) (by omega)) ?_
  rintro ⟨C, k2⟩ ⟨C0, C1, rfl⟩
  refine ok_bd (hL.range (by simp only; omega) (by omega) (by omega) (by omega)) ?_
  rintro ⟨T, k3⟩ ⟨T0, T1, rfl⟩
  simp only at R0 R1 C0 C1 T0 T1
  have m0 : 0 ≤ R * C := Int.mul_nonneg (by omega) (by omega)
  have m1 : R * C ≤ 3 * 3 := Int.mul_le_mul R1 C1 (by omega) (by omega)
  refine ok_ar (by simp only; omega) ?_
  dsimp only
  generalize hM : R * C = M at *
  refine ok_bd (R := fun r => 0 ≤ r.1 ∧ r.1 ≤ 1000 ∧ (r.2.length : Int) = M ∧ Each (fun _ t => TileOk T t) r.2) ?_ ?_
  · refine ok_lp (fun s => 0 ≤ s.1 ∧ s.1 ≤ M ∧ (0 ≤ s.2.1 ∧ s.2.1 ≤ 3 + 50 * s.1) ∧ (s.2.2.length : Int) = s.1 ∧ Each (fun _ t => TileOk T t) s.2.2) (fun s => (M - s.1).toNat) ⟨by simp, by simp only; omega, by simp, by simp, Each.nil⟩ (by simp only; omega) ?_
    rintro ⟨y, q, ts⟩ ⟨y0, y1, y2, y3, y4⟩
    simp only at y0 y1 y2 y3 y4
    unfold P_maskmake_Stream_Config_L3
    dsimp only
    refine ok_ite (fun hlt => ok_bd (hL.next (by omega) (by omega)) ?_) fun hge => ok_some ⟨by simp only; omega, by simp only; omega, by simp only; omega, y4⟩
    rintro ⟨tb, q1⟩ ⟨tb0, tb1, -, rfl⟩
    have tb1 := tb1 (by omega)
    simp only at tb0 tb1
    refine ok_lv' fun x25 e25 => ok_bd (hL.flip (by simp only; omega) (by omega)) ?_
    rintro ⟨fl, q2⟩ rfl
    simp only at e25
    refine inp_ok hL ?_ ?_ ⟨T0, T1⟩ (T_maskmake_Stream.mk L 0) rfl fun k4 i0 a0 b0 c0 => ?_
    · first | omega | (simp only; omega)
    · first | omega | (simp only; omega)
    dsimp only
    refine inp_ok hL ?_ ?_ ⟨T0, T1⟩ (T_maskmake_Stream.mk L 0) rfl fun k5 i1 a1 b1 c1 => ?_
    · first | omega | (simp only; omega)
    · first | omega | (simp only; omega)
    dsimp only
    refine inp_ok hL ?_ ?_ ⟨T0, T1⟩ (T_maskmake_Stream.mk L 0) rfl fun k6 i2 a2 b2 c2 => ?_
    · first | omega | (simp only; omega)
    · first | omega | (simp only; omega)
    dsimp only
    refine inp_ok hL ?_ ?_ ⟨T0, T1⟩ (T_maskmake_Stream.mk L 0) rfl fun k7 i3 a3 b3 c3 => ?_
    · first | omega | (simp only; omega)
    · first | omega | (simp only; omega)
    dsimp only
    refine ok_bd (out0_ok hL (by omega) (by omega) ⟨T0, T1⟩ _ rfl _) ?_
    rintro ⟨k8, o0⟩ ⟨d0, d1, d2, d3⟩
    refine ok_bd (out1_ok hL (by simp only at d0 d1 ⊢; omega) (by simp only at d0 d1 ⊢; omega) ⟨T0, T1⟩ _ rfl _) ?_
    rintro ⟨k9, o1⟩ ⟨e0, e1, e2, e3⟩
    refine ok_bd (out2_ok hL (by simp only at d0 d1 e0 e1 ⊢; omega) (by simp only at d0 d1 e0 e1 ⊢; omega) ⟨T0, T1⟩ _ rfl _) ?_
    rintro ⟨k10, o2⟩ ⟨f0, f1, f2, f3⟩
    refine ok_bd (out3_ok hL (by simp only at d0 d1 e0 e1 f0 f1 ⊢; omega) (by simp only at d0 d1 e0 e1 f0 f1 ⊢; omega) ⟨T0, T1⟩ _ rfl _) ?_
    rintro ⟨k11, o3⟩ ⟨g0, g1, g2, g3⟩
    simp only at d0 d1 d2 d3 e0 e1 e2 e3 f0 f1 f2 f3 g0 g1 g2 g3
    refine ok_lv (ok_ck ?_ (ok_ar (by omega) (ok_some ⟨⟨by simp only; omega, by simp only; omega, by simp only; omega, by simp only [List.length_append, List.length_singleton]; omega, y4.snoc ⟨by simp only; omega, c0, c1, c2, c3, d2, e2, f2, g2, d3, e3, f3, g3⟩⟩, by simp only; omega⟩)))
    simp only [List.length_append, List.length_singleton]; omega
  rintro ⟨q, ts⟩ ⟨t0, t1, t2, t3⟩
  simp only at t0 t1 t2 t3
  refine ok_bd (R := fun r => (0 ≤ r.1 ∧ r.1 ≤ 1010) ∧ (r.2.1.length : Int) = T ∧ (r.2.2.length : Int) = T ∧ Each (fun i p => (0 ≤ p.Row ∧ p.Row < R) ∧ p.Col = 0 ∧ p.Side = 3 ∧ p.Track = i) r.2.1 ∧ Each (fun i p => (0 ≤ p.Row ∧ p.Row < R) ∧ p.Col = C - 1 ∧ p.Side = 1 ∧ p.Track = i) r.2.2) ?_ ?_
  · refine ok_lp (fun s => 0 ≤ s.1 ∧ s.1 ≤ T ∧ s.2.1 = q + 2 * s.1 ∧ (s.2.2.1.length : Int) = s.1 ∧ (s.2.2.2.length : Int) = s.1 ∧ Each (fun i p => (0 ≤ p.Row ∧ p.Row < R) ∧ p.Col = 0 ∧ p.Side = 3 ∧ p.Track = i) s.2.2.1 ∧ Each (fun i p => (0 ≤ p.Row ∧ p.Row < R) ∧ p.Col = C - 1 ∧ p.Side = 1 ∧ p.Track = i) s.2.2.2) (fun s => (T - s.1).toNat) ⟨by simp, by simp only; omega, by simp, by simp, by simp, Each.nil, Each.nil⟩ (by simp only; omega) ?_
    rintro ⟨y, q1, ps, qs⟩ ⟨y0, y1, y2, y3, y4, y5, y6⟩
    simp only at y0 y1 y2 y3 y4 y5 y6
    unfold P_maskmake_Stream_Config_L33
    dsimp only
    refine ok_ite (fun hlt => ok_bd (hL.next (by omega) (by omega)) ?_) fun hge => ok_some ⟨by simp only; omega, by simp only; omega, by simp only; omega, y5, y6⟩
    rintro ⟨a, q2⟩ ⟨a0, a1, -, rfl⟩
    have a1 := a1 (by omega)
    simp only at a0 a1
    refine ok_lv (ok_ck (by simp only [List.length_append, List.length_singleton]; omega) (ok_bd (hL.next (by simp only; omega) (by omega)) ?_))
    rintro ⟨b, q3⟩ ⟨b0, b1, -, rfl⟩
    have b1 := b1 (by omega)
    simp only at b0 b1
    refine ok_ar (by omega) (ok_lv (ok_ck (by simp only [List.length_append, List.length_singleton]; omega) (ok_ar (by omega) (ok_some ⟨⟨by simp only; omega, by simp only; omega, by simp only; omega, by simp only [List.length_append, List.length_singleton]; omega, by simp only [List.length_append, List.length_singleton]; omega, y5.snoc ⟨⟨a0, a1⟩, rfl, rfl, y3.symm⟩, y6.snoc ⟨⟨b0, b1⟩, rfl, rfl, y4.symm⟩⟩, by simp only; omega⟩))))
  rintro ⟨q1, ps, qs⟩ ⟨u0, u1, u2, u3, u4⟩
  simp only at u0 u1 u2 u3 u4
  refine ok_bd (hL.flip (by simp only; omega) (by omega)) ?_
  rintro ⟨fl, q2⟩ rfl
  refine ok_bd (R := fun r => (0 ≤ r.2 ∧ r.2 ≤ 1020) ∧ T ≤ r.1.length ∧ (r.1.length : Int) ≤ T + 1 ∧ Each (fun i p => if i < T then (0 ≤ p.Row ∧ p.Row < R) ∧ p.Col = 0 ∧ p.Side = 3 ∧ p.Track = i else p.Row = 0 ∧ (0 ≤ p.Col ∧ p.Col < C) ∧ p.Side = 0 ∧ 0 ≤ p.Track ∧ p.Track < T) r.1) ?_ ?_
  · have hold : Each (fun i p => if i < T then (0 ≤ p.Row ∧ p.Row < R) ∧ p.Col = 0 ∧ p.Side = 3 ∧ p.Track = i else p.Row = 0 ∧ (0 ≤ p.Col ∧ p.Col < C) ∧ p.Side = 0 ∧ 0 ≤ p.Track ∧ p.Track < T) ps := fun i hi => by
      have := u3 i hi
      dsimp only at this ⊢
      rw [if_pos (by have := hi.2; omega)]; exact this
    refine ok_ite (fun _ => ok_bd (hL.next (by simp only; omega) (by omega)) ?_) fun _ => ok_some ⟨by simp only; omega, by simp only; omega, by simp only; omega, hold⟩
    rintro ⟨a, q3⟩ ⟨a0, a1, -, rfl⟩
    have a1 := a1 (by omega)
    simp only at a0 a1
    refine ok_bd (hL.next (by simp only; omega) (by omega)) ?_
    rintro ⟨b, q4⟩ ⟨b0, b1, -, rfl⟩
    have b1 := b1 (by omega)
    simp only at b0 b1
    refine ok_lv (ok_ck (by simp only [List.length_append, List.length_singleton]; omega) (ok_some ⟨by simp only; omega, by simp only [List.length_append, List.length_singleton]; omega, by simp only [List.length_append, List.length_singleton]; omega, hold.snoc ?_⟩))
    dsimp only
    rw [if_neg (by omega)]
    exact ⟨rfl, ⟨a0, a1⟩, rfl, b0, b1⟩
  rintro ⟨ps2, q3⟩ ⟨v0, v1, v2, v3⟩
  simp only at v0 v1 v2 v3
  exact ok_some ⟨⟨by simp only; omega, by simp only; omega, by simp only; omega, by simp only; omega, t3, ⟨v1, v2⟩, u2, v3, u4⟩, by simp only; omega, by simp only; omega⟩
end Go.Proofs.Ytnooiajahmichaa.X
