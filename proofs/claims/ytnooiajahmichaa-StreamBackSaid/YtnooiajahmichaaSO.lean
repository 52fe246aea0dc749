/- Decode of what Encode returned. Plain. -/
import Derived.Test.YtnooiajahmichaaSN
namespace Go.Proofs.Ytnooiajahmichaa.X
open Go Go.RowKit
set_option linter.unusedVariables false
set_option linter.unusedSimpArgs false
theorem rpads_val {x : List Int} (hx : Bytes x) (hl : x.length ≤ 100000) {p : Int} {pn : Nat} (hp : p = pn) (h1 : pn ≤ 10000) {ps : List T_array_Pad} (hn : ps.length ≤ 200) (h : PadsAt x pn ps) {ov : Bool} : Ok (P_stream_reader_pads (T_stream_reader.mk x p ov)) (fun r => r.1 = ps ∧ r.2.1 = (pn + (8 + 13 * ps.length) : Nat)) := by
  unfold P_stream_reader_pads
  refine ok_bd (rget hx hl hp (mn := 8) rfl (by omega) (by omega)) ?_
  rintro ⟨v, q, o⟩ ⟨hv, rfl⟩
  simp only at hv
  rw [h.1] at hv
  subst hv
  refine ok_bd (R := fun r => r.1 = ps ∧ r.2.1 = (pn + 8 + 13 * ps.length : Nat)) ?_ fun r hr => ok_some ⟨hr.1, by simp only; rw [hr.2]; omega⟩
  refine ok_lp (fun s => ∃ y : Nat, s.2.1 = y ∧ y ≤ ps.length ∧ s.2.2.1 = (pn + 8 + 13 * y : Nat) ∧ s.1.length = y ∧ ∀ z : Nat, z < y → gt s.1 (z : Int) = gt ps z) (fun s => ((ps.length : Int) - s.2.1).toNat) ⟨0, rfl, by omega, rfl, rfl, fun z hz => by omega⟩ (by simp only; omega) ?_
  rintro ⟨qs, _, _, o⟩ ⟨y, rfl, y1, rfl, y2, y3⟩
  simp only at y2 y3
  unfold P_stream_reader_pads_L3
  dsimp only
  refine ok_ite (fun hlt => ok_bd (rget hx hl rfl (mn := 4) rfl (by omega) (by omega)) ?_) fun hge => ok_some ⟨?_, by simp only; omega⟩
  · rintro ⟨a1, b1, c1⟩ ⟨e1, rfl⟩
    refine ok_bd (rget hx hl rfl (mn := 4) rfl (by omega) (by omega)) ?_
    rintro ⟨a2, b2, c2⟩ ⟨e2, rfl⟩
    refine ok_bd (rget hx hl rfl (mn := 2) rfl (by omega) (by omega)) ?_
    rintro ⟨a3, b3, c3⟩ ⟨e3, rfl⟩
    refine ok_bd (rget hx hl rfl (mn := 3) rfl (by omega) (by omega)) ?_
    rintro ⟨a4, b4, c4⟩ ⟨e4, rfl⟩
    simp only at e1 e2 e3 e4
    have k := h.2 y (by omega)
    have k1 : a1 = (gt ps (y : Int)).Row := by rw [e1, ← k.row]
    have k2 : a2 = (gt ps (y : Int)).Col := by rw [e2, ← k.col]
    have k3 : a3 = (gt ps (y : Int)).Side := by rw [e3, ← k.side]
    have k4 : a4 = (gt ps (y : Int)).Track := by rw [e4, ← k.track]
    refine ok_lv (ok_ck ?_ (ok_ar (by omega) (ok_some ⟨⟨y + 1, by simp only; omega, by omega, by simp only; omega, by simp only [List.length_append, List.length_singleton]; omega, fun z hz => ?_⟩, by simp only; omega⟩)))
    · simp only [List.length_append, List.length_singleton]; omega
    · simp only
      by_cases e : z = y
      · rw [gt_app_1 (by omega), k1, k2, k3, k4, e]
      · rw [gt_app_l (by omega)]; exact y3 z (by omega)
  · refine ext_gt (by simp only; omega) fun j j0 j1 => ?_
    obtain ⟨z, rfl⟩ := Int.eq_ofNat_of_zero_le j0
    simp only at j1 ⊢
    exact y3 z (by omega)
theorem idx_inj {C r r' y z : Int} (hy : 0 ≤ y ∧ y < C) (hz : 0 ≤ z ∧ z < C) (h : r * C + y = r' * C + z) : r = r' ∧ y = z := by
  rcases Int.lt_trichotomy r r' with e | e | e
  · have : (r + 1) * C ≤ r' * C := Int.mul_le_mul_of_nonneg_right (by omega) (by omega)
    rw [Int.add_mul, Int.one_mul] at this
    omega
  · subst e; omega
  · have : (r' + 1) * C ≤ r * C := Int.mul_le_mul_of_nonneg_right (by omega) (by omega)
    rw [Int.add_mul, Int.one_mul] at this
    omega
theorem Decode_val {c : T_array_Config} (h : ConfOk c) {b : List Int} {R C T : Nat} (eR : c.Rows = R) (eC : c.Cols = C) (eT : c.Tracks = T) (hb : Layout b R C T c.In.length c.Out.length) (hv : Values b c R C T) (hl : b.length ≤ 10000) : Ok (P_stream_Decode b) (fun r => r = (c, 0)) := by
  have a1 := h.rows
  have a2 := h.cols
  have a3 := h.tracks
  have hL := h.tilesL
  have hil := h.inL
  have hol := h.outL
  have hR : 1 ≤ R ∧ R ≤ 3 := by omega
  have hC : 1 ≤ C ∧ C ≤ 3 := by omega
  have hT : T = 2 ∨ T = 3 := by omega
  have hx := hb.head.bytes
  have hdl : 5 ≤ colB R T ∧ colB R T ≤ 26 := by
    unfold colB
    rcases (by omega : R = 1 ∨ R = 2 ∨ R = 3) with e | e | e <;> rcases hT with e2 | e2 <;> subst e e2 <;> omega
  have hlen := hb.len
  have hTL : (c.Tiles.length : Int) = R * C := by rw [hL, eR, eC]
  have hm0 : 0 ≤ (R : Int) * C := Int.mul_nonneg (by omega) (by omega)
  have hm1 : (R : Int) * C ≤ 3 * 3 := Int.mul_le_mul (by omega) (by omega) (by omega) (by omega)
  have hi : ∀ r y : Nat, r < R → y < C → 0 ≤ (r : Int) * C + y ∧ (r : Int) * C + y < R * C := fun r y hr hy => by
    have p1 : 0 ≤ (r : Int) * C := Int.mul_nonneg (by omega) (by omega)
    have p2 : ((r : Int) + 1) * C ≤ R * C := Int.mul_le_mul_of_nonneg_right (by omega) (by omega)
    rw [Int.add_mul, Int.one_mul] at p2
    omega
  have hti : ∀ r y : Nat, r < R → y < C → TileOk T (gt c.Tiles ((r : Int) * C + y)) := fun r y hr hy => by
    have q := h.tile ((r : Int) * C + y) ⟨(hi r y hr hy).1, by rw [hL, eR, eC]; exact (hi r y hr hy).2⟩
    rw [eT] at q; exact q
  unfold P_stream_Decode
  refine ok_f (by omega) (ok_bd (rget hx (by omega) (pn := 0) rfl (mn := 16) rfl (by omega) (by omega)) ?_)
  rintro ⟨v1, q1, o1⟩ ⟨e1, rfl⟩
  refine ok_bd (rget hx (by omega) rfl (mn := 8) rfl (by omega) (by omega)) ?_
  rintro ⟨v2, q2, o2⟩ ⟨e2, rfl⟩
  refine ok_bd (rget hx (by omega) rfl (mn := 8) rfl (by omega) (by omega)) ?_
  rintro ⟨v3, q3, o3⟩ ⟨e3, rfl⟩
  refine ok_bd (rget hx (by omega) rfl (mn := 8) rfl (by omega) (by omega)) ?_
  rintro ⟨v4, q4, o4⟩ ⟨e4, rfl⟩
  refine ok_bd (rget hx (by omega) rfl (mn := 8) rfl (by omega) (by omega)) ?_
  rintro ⟨v5, q5, o5⟩ ⟨e5, rfl⟩
  simp only at e1 e2 e3 e4 e5
  refine ok_bd (part_ok hx (by omega) (p := 48) (o := 0) (num := 0) (by omega) (by omega) (by omega)) ?_
  rintro ⟨pe, pa⟩ ⟨-, -, k3, k4⟩
  simp only at k3 k4
  have hp0 : pe = 0 := k4 (by omega) hb.head.part fun q a b => by omega
  subst hp0
  have kp := k3 rfl
  have m1 : v1 = 19799 := by rw [e1, hb.head.magic]; rfl
  have m2 : v2 = 1 := by rw [e2, show (0 + 16 : Nat) = 16 from rfl, hb.head.version]; rfl
  have m3 : v3 = R := by rw [e3, show (0 + 16 + 8 : Nat) = 24 from rfl, hb.head.rows]
  have m4 : v4 = C := by rw [e4, show (0 + 16 + 8 + 8 : Nat) = 32 from rfl, hb.head.cols]
  have m5 : v5 = T := by rw [e5, show (0 + 16 + 8 + 8 + 8 : Nat) = 40 from rfl, hb.head.tracks]
  subst m1 m2 m3 m4 m5
  clear e1 e2 e3 e4 e5 k3 k4
  refine ok_f (by simp) (ok_lv (ok_f (by simp) (ok_lv' fun x51 e51 => ok_lv' fun x58 e58 => ok_lv (ok_lv (ok_lv (ok_f ?_ ?_))))))
  · simp only at e51 e58
    simp only [Bool.or_eq_true, decide_eq_true_eq]; omega
  dsimp only
  refine ok_ar (by omega) (ok_ck ⟨by omega, by omega⟩ (ok_lv' fun z ez => ?_))
  have hzl : (z.length : Int) = R * C := by rw [ez]; simp; omega
  refine ok_bs1 (R := fun s => s.1 = (8 * (8 + C * (colB R T + 2)) : Nat) ∧ s.2.2 = c.Tiles) ?_ ?_
  · refine ok_lp (fun s => ∃ y : Nat, s.1 = y ∧ y ≤ C ∧ s.2.1 = (8 * (8 + y * (colB R T + 2)) : Nat) ∧ s.2.2.2.length = z.length ∧ ∀ r w : Nat, r < R → w < y → gt s.2.2.2 ((r : Int) * C + w) = gt c.Tiles ((r : Int) * C + w)) (fun s => ((C : Int) - s.1).toNat) ⟨0, rfl, by omega, by simp only; rw [kp]; simp, rfl, fun r w hr hw => by omega⟩ (by simp only; omega) ?_
    rintro ⟨_, _, ov, ts⟩ ⟨y, rfl, y1, rfl, y3, y4⟩
    simp only at y3 y4
    unfold P_stream_Decode_L15
    dsimp only
    have hyb : y * (colB R T + 2) ≤ 3 * 28 := Nat.mul_le_mul (by omega) (by omega)
    refine ok_ite (fun hlt => ?_) fun hge => ok_some ⟨_, rfl, by rw [show C = y by omega], ?_⟩
    · have hcol := hb.col y (by omega)
      have hvt := fun r hr => hv.tile y r (by omega) hr
      have hend2 : 8 + y * (colB R T + 2) + colB R T + 2 ≤ b.length := by
        have : (y + 1) * (colB R T + 2) ≤ C * (colB R T + 2) := Nat.mul_le_mul_right _ (by omega)
        rw [Nat.add_mul, Nat.one_mul] at this
        omega
      generalize hoy : 8 + y * (colB R T + 2) = oy at *
      have hd : Int.tdiv ((8 * oy : Nat) : Int) 8 = oy := by rw [Int.tdiv_eq_ediv_of_nonneg (by omega)]; omega
      rw [hd]
      refine ok_ck (by omega) (ok_ar (by omega) (ok_bd (R := fun s => s.1 = (8 * oy + R * (33 + 12 * T) : Nat) ∧ s.2.2.length = z.length ∧ ∀ r w : Nat, r < R → w < y + 1 → gt s.2.2 ((r : Int) * C + w) = gt c.Tiles ((r : Int) * C + w)) ?_ ?_))
      · refine ok_lp (fun s => ∃ r : Nat, s.1 = r ∧ r ≤ R ∧ s.2.1 = (8 * oy + r * (33 + 12 * T) : Nat) ∧ s.2.2.2.length = z.length ∧ ∀ r' w : Nat, r' < R → (w < y ∨ w = y ∧ r' < r) → gt s.2.2.2 ((r' : Int) * C + w) = gt c.Tiles ((r' : Int) * C + w)) (fun s => ((R : Int) - s.1).toNat) ⟨0, rfl, by omega, by simp, y3, fun r' w hr hw => y4 r' w hr (by omega)⟩ (by simp only; omega) ?_
        rintro ⟨_, _, ov2, ts2⟩ ⟨r, rfl, r1, rfl, r3, r4⟩
        simp only at r3 r4
        unfold P_stream_Decode_L19
        dsimp only
        have hz0 : 0 ≤ (r : Int) * C := Int.mul_nonneg (by omega) (by omega)
        have hz1 : (r : Int) * C ≤ 3 * 3 := Int.mul_le_mul (by omega) (by omega) (by omega) (by omega)
        have hrb : r * (33 + 12 * T) ≤ 3 * 69 := Nat.mul_le_mul (by omega) (by omega)
        refine ok_ite (fun hlt2 => ?_) fun hge => ok_some ⟨by rw [show R = r by omega], r3, fun r' w hr hw => r4 r' w hr (by omega)⟩
        have hir := hi r y (by omega) (by omega)
        refine ok_ar (by omega) (ok_ar (by omega) (ok_bd (rtile_val hx (by omega) hT rfl (by omega) (hti r y (by omega) (by omega)) (hvt r (by omega))) ?_))
        rintro ⟨t, q, ov3⟩ ⟨rfl, rfl⟩
        refine ok_ck ⟨by omega, by omega⟩ (ok_lv (ok_ar (by omega) (ok_some ⟨⟨r + 1, by simp only; omega, by omega, by simp only; rw [Nat.add_mul, Nat.one_mul]; omega, by simp only; rw [stt_length, r3], fun r' w hr hw => ?_⟩, by simp only; omega⟩)))
        simp only
        have hir' := hi r' w hr (by omega)
        rw [gt_stt _ _ ⟨by omega, by omega⟩ hir'.1]
        by_cases e : (r' : Int) * C + w = (r : Int) * C + y
        · rw [if_pos e, e]
        · rw [if_neg e]
          refine r4 r' w hr ?_
          rcases hw with hw | ⟨rfl, hw⟩
          · exact .inl hw
          · refine .inr ⟨rfl, ?_⟩
            rcases Nat.lt_or_ge r' r with k | k
            · exact k
            · exact absurd (by rw [show r' = r by omega]) e
      rintro ⟨q, ov2, ts2⟩ ⟨rfl, t3, t4⟩
      simp only at t3 t4
      have hend : (8 * oy + R * (33 + 12 * T) + 7) / 8 = oy + colB R T := by unfold colB; omega
      have hRb : R * (33 + 12 * T) ≤ 3 * 69 := Nat.mul_le_mul (by omega) (by omega)
      refine ok_ar (by omega) (ok_bd (part_ok hx (by omega) (p := 8 * oy + R * (33 + 12 * T)) (o := oy) (num := 1 + y) (by omega) (by omega) (by omega)) ?_)
      rintro ⟨pe, pa⟩ ⟨-, -, k3, k4⟩
      simp only at k3 k4
      rw [hend] at k3 k4
      have hp0 : pe = 0 := k4 (by omega) hcol.part fun q a b => hcol.zero q a b
      subst hp0
      have kp := k3 rfl
      refine ok_f (by simp) (ok_ar (by omega) (ok_some ⟨⟨y + 1, by simp only; omega, by omega, ?_, t3, t4⟩, by simp only; omega⟩))
      simp only; rw [kp, Nat.add_mul, Nat.one_mul]; omega
    · have hyC : y = C := by omega
      subst hyC
      refine ext_gt (by simp only; omega) fun j j0 j1 => ?_
      simp only at j1 ⊢
      have hj : j < (R : Int) * y := by omega
      have hq0 : 0 ≤ j / (y : Int) := Int.ediv_nonneg j0 (by omega)
      have hq1 : j / (y : Int) < R := Int.ediv_lt_of_lt_mul (by omega) hj
      have hm0 := Int.emod_nonneg j (b := (y : Int)) (by omega)
      have hm1 := Int.emod_lt_of_pos j (b := (y : Int)) (by omega)
      have hdm := Int.mul_ediv_add_emod j (y : Int)
      have q := y4 (j / (y : Int)).toNat (j % (y : Int)).toNat (by omega) (by omega)
      rw [show (((j / (y : Int)).toNat : Nat) : Int) = j / (y : Int) by omega, show (((j % (y : Int)).toNat : Nat) : Int) = j % (y : Int) by omega, Int.mul_comm, hdm] at q
      exact q
  rintro ⟨q, ov, ts⟩ ⟨rfl, rfl⟩
  dsimp only
  have hCb : C * (colB R T + 2) ≤ 3 * 28 := Nat.mul_le_mul (by omega) (by omega)
  have hpp := hb.pad
  have hpz := hb.padz
  have hin := hv.inp
  have hou := hv.outp
  generalize hoC : 8 + C * (colB R T + 2) = oC at *
  have hd : Int.tdiv ((8 * oC : Nat) : Int) 8 = oC := by rw [Int.tdiv_eq_ediv_of_nonneg (by omega)]; omega
  rw [hd]
  refine ok_ck (by omega) (ok_ar (by omega) (ok_bd (rpads_val hx (by omega) rfl (by omega) (by omega) hin) ?_))
  rintro ⟨ps, q2, ov2⟩ ⟨rfl, rfl⟩
  refine ok_bd (rpads_val hx (by omega) rfl (by omega) (by omega) hou) ?_
  rintro ⟨ps2, q3, ov3⟩ ⟨rfl, rfl⟩
  dsimp only
  unfold padB padBits at *
  refine ok_ar (by omega) (ok_bd (part_ok hx (by omega) (p := 8 * oC + (8 + 13 * c.In.length) + (8 + 13 * c.Out.length)) (o := oC) (num := 1 + C) (by omega) (by omega) (by omega)) ?_)
  have hend : (8 * oC + (8 + 13 * c.In.length) + (8 + 13 * c.Out.length) + 7) / 8 = oC + (8 + 13 * c.In.length + (8 + 13 * c.Out.length) + 7) / 8 := by omega
  rw [hend]
  rintro ⟨pe, pa⟩ ⟨-, -, k3, k4⟩
  simp only at k3 k4
  have hp0 : pe = 0 := k4 (by omega) hpp fun q a b => hpz q (by omega) b
  subst hp0
  have kp := k3 rfl
  have hcc : T_array_Config.mk (R : Int) (C : Int) (T : Int) c.Tiles c.In c.Out = c := by rw [← eR, ← eC, ← eT]
  refine ok_f (by simp) (ok_ar (by omega) (ok_f (by simp only; rw [kp]; omega) ?_))
  rw [hcc]
  refine ok_bd (Check_ok h) ?_
  rintro _ rfl
  exact ok_f (by simp) (ok_some rfl)
end Go.Proofs.Ytnooiajahmichaa.X
