/- What Encode writes, with all values. Plain. -/
import Derived.Test.YtnooiajahmichaaSM
namespace Go.Proofs.Ytnooiajahmichaa.X
open Go Go.RowKit
set_option linter.unusedVariables false
set_option linter.unusedSimpArgs false
theorem rdB_shift {a d z : List Int} {p k : Nat} (h : p + k ≤ 8 * d.length) : rdB (a ++ (d ++ z)) (8 * a.length + p) k = rdB d p k := by
  refine rd_congr fun i hi => ?_
  rw [Nat.add_assoc, bitN_appR, bitN_appL (by omega)]
theorem RowAt.shift {a d z : List Int} {p : Nat} {xs : List Int} (h : RowAt d p xs) (hl : p + 3 * xs.length ≤ 8 * d.length) : RowAt (a ++ (d ++ z)) (8 * a.length + p) xs := fun y hy => by
  rw [Nat.add_assoc, rdB_shift (by omega)]; exact h y hy
theorem TileAt.shift {a d z : List Int} {p T : Nat} {t : T_array_Tile} (h : TileAt d p T t) (ht : TileOk T t) (hl : p + (33 + 12 * T) ≤ 8 * d.length) : TileAt (a ++ (d ++ z)) (8 * a.length + p) T t := by
  have l0 := ht.l0
  have l1 := ht.l1
  have l2 := ht.l2
  have l3 := ht.l3
  refine ⟨?_, ?_, ?_, ?_, ?_, ?_, ?_, ?_, ?_, ?_⟩ <;> try simp only [Nat.add_assoc]
  · rw [rdB_shift (by omega)]; exact h.table
  · rw [rdB_shift (by omega)]; exact h.init
  · rw [rdB_shift (by omega)]; exact h.i0
  · rw [rdB_shift (by omega)]; exact h.i1
  · rw [rdB_shift (by omega)]; exact h.i2
  · rw [rdB_shift (by omega)]; exact h.i3
  · exact h.o0.shift (by omega)
  · have := h.o1.shift (a := a) (z := z) (by omega); simpa only [Nat.add_assoc] using this
  · have := h.o2.shift (a := a) (z := z) (by omega); simpa only [Nat.add_assoc] using this
  · have := h.o3.shift (a := a) (z := z) (by omega); simpa only [Nat.add_assoc] using this
/-- A pad's four numbers. -/
structure PadAt (b : List Int) (p : Nat) (q : T_array_Pad) : Prop where
  row : (rdB b p 4 : Int) = q.Row
  col : (rdB b (p + 4) 4 : Int) = q.Col
  side : (rdB b (p + 8) 2 : Int) = q.Side
  track : (rdB b (p + 10) 3 : Int) = q.Track
def PadsAt (b : List Int) (p : Nat) (ps : List T_array_Pad) : Prop := rdB b p 8 = ps.length ∧ ∀ y : Nat, y < ps.length → PadAt b (p + 8 + 13 * y) (gt ps y)
def PadOk (q : T_array_Pad) : Prop := (0 ≤ q.Row ∧ q.Row < 16) ∧ (0 ≤ q.Col ∧ q.Col < 16) ∧ (0 ≤ q.Side ∧ q.Side < 4) ∧ 0 ≤ q.Track ∧ q.Track < 8
theorem PadAt.same {b b' : List Int} {p L : Nat} {q : T_array_Pad} (h : PadAt b p q) (hs : Same b b' L) (hl : p + 13 ≤ L) : PadAt b' p q :=
  ⟨by rw [rdB_same hs (by omega)]; exact h.row, by rw [rdB_same hs (by omega)]; exact h.col, by rw [rdB_same hs (by omega)]; exact h.side, by rw [rdB_same hs (by omega)]; exact h.track⟩
theorem PadsAt.same {b b' : List Int} {p L : Nat} {ps : List T_array_Pad} (h : PadsAt b p ps) (hs : Same b b' L) (hl : p + 8 + 13 * ps.length ≤ L) : PadsAt b' p ps :=
  ⟨by rw [rdB_same hs (by omega)]; exact h.1, fun y hy => (h.2 y hy).same hs (by omega)⟩
theorem PadsAt.shift {a d z : List Int} {p : Nat} {ps : List T_array_Pad} (h : PadsAt d p ps) (hl : p + 8 + 13 * ps.length ≤ 8 * d.length) : PadsAt (a ++ (d ++ z)) (8 * a.length + p) ps := by
  refine ⟨by rw [rdB_shift (by omega)]; exact h.1, fun y hy => ?_⟩
  have k := h.2 y hy
  refine ⟨?_, ?_, ?_, ?_⟩ <;> simp only [Nat.add_assoc]
  · rw [rdB_shift (by omega)]; simpa only [Nat.add_assoc] using k.row
  · rw [rdB_shift (by omega)]; simpa only [Nat.add_assoc] using k.col
  · rw [rdB_shift (by omega)]; simpa only [Nat.add_assoc] using k.side
  · rw [rdB_shift (by omega)]; simpa only [Nat.add_assoc] using k.track
theorem ConfOk.inP {c : T_array_Config} (h : ConfOk c) : Each (fun _ q => PadOk q) c.In := fun i hi => by
  have q := h.in_ i hi
  have a := h.rows
  have b := h.cols
  have d := h.tracks
  have i0 := hi.1
  simp only at q
  unfold PadOk
  split at q <;> omega
theorem ConfOk.outP {c : T_array_Config} (h : ConfOk c) : Each (fun _ q => PadOk q) c.Out := fun i hi => by
  have q := h.out i hi
  have a := h.rows
  have b := h.cols
  have d := h.tracks
  have e := h.outL
  have i0 := hi.1
  have i1 := hi.2
  simp only at q
  unfold PadOk
  omega
theorem wpads_val {b : List Int} {left : Int} {L : Nat} (h : Wr b left L) {ps : List T_array_Pad} (hok : Each (fun _ q => PadOk q) ps) (hp : ps.length ≤ 200) (hl : L ≤ 10000) : Ok (P_stream_writer_pads_2 (T_stream_writer.mk b left) ps) (fun r => Wr r.1 r.2 (L + (8 + 13 * ps.length)) ∧ Same b r.1 L ∧ rdB r.1 L 8 = ps.length ∧ PadsAt r.1 L ps) := by
  have pow2 : (2 : Nat) ^ 2 = 4 := by decide
  unfold P_stream_writer_pads_2
  refine ok_lv (ok_bd (wput h (mn := 8) rfl (by omega) (by omega) (by omega)) ?_)
  rintro ⟨b1, q1⟩ ⟨w1, p1⟩
  simp only at w1 p1
  have hc := p1.rd (by have : (2 : Nat) ^ 8 = 256 := by decide
                       omega)
  have hn : ((ps.length : Int) % 18446744073709551616).toNat = ps.length := by omega
  rw [hn] at hc
  refine ok_bd (R := fun r => Wr r.1 r.2 (L + 8 + 13 * ps.length) ∧ Same b1 r.1 (L + 8) ∧ ∀ z : Nat, z < ps.length → PadAt r.1 (L + 8 + 13 * z) (gt ps z)) ?_ ?_
  · refine ok_lp (fun s => ∃ y : Nat, s.1 = y ∧ y ≤ ps.length ∧ Wr s.2.1 s.2.2 (L + 8 + 13 * y) ∧ Same b1 s.2.1 (L + 8) ∧ ∀ z : Nat, z < y → PadAt s.2.1 (L + 8 + 13 * z) (gt ps z)) (fun s => ((ps.length : Int) - s.1).toNat) ⟨0, rfl, by omega, w1, fun p _ => rfl, fun z hz => by omega⟩ (by simp only; omega) ?_
    rintro ⟨_, b2, q2⟩ ⟨y, rfl, y1, hw, hs, hv⟩
    simp only at hw hs hv
    unfold P_stream_writer_pads_2_L2
    dsimp only
    refine ok_ite (fun hlt => ok_ck ⟨by omega, hlt⟩ (ok_lv (ok_lv (ok_bd (wput hw (mn := 4) rfl (by omega) (by omega) (by omega)) ?_)))) fun hge => ok_some (by rw [show ps.length = y by omega]; exact ⟨hw, hs, fun z hz => hv z (by omega)⟩)
    rintro ⟨b3, q3⟩ ⟨w3, p3⟩
    refine ok_lv (ok_bd (wput w3 (mn := 4) rfl (by omega) (by omega) (by omega)) ?_)
    rintro ⟨b4, q4⟩ ⟨w4, p4⟩
    refine ok_lv (ok_bd (wput w4 (mn := 2) rfl (by omega) (by omega) (by omega)) ?_)
    rintro ⟨b5, q5⟩ ⟨w5, p5⟩
    refine ok_lv (ok_bd (wput w5 (mn := 3) rfl (by omega) (by omega) (by omega)) ?_)
    rintro ⟨b6, q6⟩ ⟨w6, p6⟩
    simp only at w3 p3 w4 p4 w5 p5 w6 p6
    have hq := hok y ⟨by omega, hlt⟩
    unfold PadOk at hq
    have r5 := p6.same
    have r4 := p5.same.trans r5 (by omega)
    have r3 := p4.same.trans r4 (by omega)
    have r2 := p3.same.trans r3 (by omega)
    refine ok_ar (by omega) (ok_some ⟨⟨y + 1, by simp only; omega, by omega, by simp only; rw [show L + 8 + 13 * (y + 1) = L + 8 + 13 * y + 4 + 4 + 2 + 3 by omega]; exact w6, hs.trans r2 (by omega), fun z hz => ?_⟩, by simp only; omega⟩)
    simp only
    by_cases e : z = y
    · subst e
      refine ⟨?_, ?_, ?_, ?_⟩
      · rw [rdB_same r3 (by omega), p3.rd (by rw [pow4]; omega)]; omega
      · rw [rdB_same r4 (by omega), p4.rd (by rw [pow4]; omega)]; omega
      · rw [show L + 8 + 13 * z + 8 = L + 8 + 13 * z + 4 + 4 by omega, rdB_same r5 (by omega), p5.rd (by rw [pow2]; omega)]; omega
      · rw [show L + 8 + 13 * z + 10 = L + 8 + 13 * z + 4 + 4 + 2 by omega, p6.rd (by rw [pow3]; omega)]; omega
    · exact (hv z (by omega)).same r2 (by omega)
  rintro ⟨b2, q2⟩ ⟨w2, s2, v2⟩
  simp only at w2 s2 v2
  have hcc : rdB b2 L 8 = ps.length := by rw [rdB_same s2 (by omega), hc]
  exact ok_some ⟨by simp only; rw [show L + (8 + 13 * ps.length) = L + 8 + 13 * ps.length by omega]; exact w2, p1.same.trans s2 (by omega), hcc, hcc, v2⟩
/-- All values of a configuration stand in a stream. -/
structure Values (b : List Int) (c : T_array_Config) (R C T : Nat) : Prop where
  tile : ∀ y r, y < C → r < R → TileAt b (8 * (8 + y * (colB R T + 2)) + r * (33 + 12 * T)) T (gt c.Tiles ((r : Int) * C + y))
  inp : PadsAt b (8 * (8 + C * (colB R T + 2))) c.In
  outp : PadsAt b (8 * (8 + C * (colB R T + 2)) + (8 + 13 * c.In.length)) c.Out
theorem Encode_val {c : T_array_Config} (h : ConfOk c) : Ok (P_stream_Encode c) (fun r => r.2 = 0 ∧ ∃ R C T : Nat, (c.Rows = R ∧ c.Cols = C ∧ c.Tracks = T) ∧ Layout r.1 R C T c.In.length c.Out.length ∧ Values r.1 c R C T) := by
  have a1 := h.rows
  have a2 := h.cols
  have a3 := h.tracks
  have hL := h.tilesL
  have hM := h.Mb
  have hil := h.inL
  have hol := h.outL
  obtain ⟨R, hR⟩ := Int.eq_ofNat_of_zero_le (by omega : 0 ≤ c.Rows)
  obtain ⟨C, hC⟩ := Int.eq_ofNat_of_zero_le (by omega : 0 ≤ c.Cols)
  obtain ⟨T, hT⟩ := Int.eq_ofNat_of_zero_le (by omega : 0 ≤ c.Tracks)
  have hT2 : T = 2 ∨ T = 3 := by omega
  have hdl : 5 ≤ colB R T ∧ colB R T ≤ 26 := by
    unfold colB
    rcases (by omega : R = 1 ∨ R = 2 ∨ R = 3) with e | e | e <;> rcases hT2 with e2 | e2 <;> subst e e2 <;> omega
  unfold P_stream_Encode
  refine ok_bd (Check_ok h) ?_
  rintro _ rfl
  refine ok_f (by simp) (ok_bd (wput Wr.nil (v := 19799) (mn := 16) rfl (by omega) (by omega) (by omega)) ?_)
  rintro ⟨b1, q1⟩ ⟨w1, p1⟩
  refine ok_bd (wput w1 (v := 1) (mn := 8) rfl (by omega) (by omega) (by omega)) ?_
  rintro ⟨b2, q2⟩ ⟨w2, p2⟩
  refine ok_lv (ok_bd (wput w2 (mn := 8) rfl (by omega) (by omega) (by omega)) ?_)
  rintro ⟨b3, q3⟩ ⟨w3, p3⟩
  refine ok_lv (ok_bd (wput w3 (mn := 8) rfl (by omega) (by omega) (by omega)) ?_)
  rintro ⟨b4, q4⟩ ⟨w4, p4⟩
  refine ok_lv (ok_bd (wput w4 (mn := 8) rfl (by omega) (by omega) (by omega)) ?_)
  rintro ⟨b5, q5⟩ ⟨w5, p5⟩
  simp only at w1 p1 w2 p2 w3 p3 w4 p4 w5 p5
  have h256 : (2 : Nat) ^ 8 = 256 := by decide
  have r1 := p1.rd (by decide)
  have r2 := p2.rd (by decide)
  have r3 := p3.rd (by rw [h256]; omega)
  have r4 := p4.rd (by rw [h256]; omega)
  have r5 := p5.rd (by rw [h256]; omega)
  have s5 := p5.same
  have s4 := p4.same.trans s5 (by omega)
  have s3 := p3.same.trans s4 (by omega)
  have s2 := p2.same.trans s3 (by omega)
  have hl5 := w5.len
  simp only [Nat.zero_add] at hl5 r1 r2 r3 r4 r5 s5 s4 s3 s2
  refine ok_bd (closed_ok w5.bytes (num := 0) (by omega) (by omega)) ?_
  rintro out0 hout0
  have hhead : Head out0 R C T := by
    have hl0 : out0.length = 8 := by rw [hout0]; simp [tail2]; omega
    have hs0 : Same b5 out0 48 := by rw [hout0]; exact fun p hp => bitN_appL (by omega)
    have hp := partAt_new (out := []) (data := b5) (num := 0)
    refine ⟨by rw [hout0]; exact w5.bytes.app (tail2_bytes w5.bytes (by omega)), by omega, ?_, ?_, ?_, ?_, ?_, ?_⟩
    · rw [hout0]
      simpa [hl5] using hp
    · rw [rdB_same hs0 (by omega), rdB_same s2 (by omega), r1]; decide
    · rw [rdB_same hs0 (by omega), rdB_same s3 (by omega), r2]; decide
    · rw [rdB_same hs0 (by omega), rdB_same s4 (by omega), r3]; omega
    · rw [rdB_same hs0 (by omega), rdB_same s5 (by omega), r4]; omega
    · rw [rdB_same hs0 (by omega), r5]; omega
  have hl0 : out0.length = 8 := by rw [hout0]; simp [tail2]; omega
  clear hout0 r1 r2 r3 r4 r5 s5 s4 s3 s2 hl5 w1 w2 w3 w4 w5 p1 p2 p3 p4 p5
  refine ok_bd (R := fun o => Head o R C T ∧ o.length = 8 + C * (colB R T + 2) ∧ (∀ y, y < C → Col o R T (1 + y) (8 + y * (colB R T + 2))) ∧ ∀ y r, y < C → r < R → TileAt o (8 * (8 + y * (colB R T + 2)) + r * (33 + 12 * T)) T (gt c.Tiles ((r : Int) * C + y))) ?_ ?_
  · refine ok_lp (fun s => ∃ y : Nat, s.2 = y ∧ y ≤ C ∧ Head s.1 R C T ∧ s.1.length = 8 + y * (colB R T + 2) ∧ (∀ z, z < y → Col s.1 R T (1 + z) (8 + z * (colB R T + 2))) ∧ ∀ z r, z < y → r < R → TileAt s.1 (8 * (8 + z * (colB R T + 2)) + r * (33 + 12 * T)) T (gt c.Tiles ((r : Int) * C + z))) (fun s => ((C : Int) - s.2).toNat) ⟨0, rfl, by omega, hhead, by simp only; omega, fun z hz => by omega, fun z r hz => by omega⟩ (by simp only; omega) ?_
    rintro ⟨out, _⟩ ⟨y, rfl, y1, hh, hlen, hcol, htl⟩
    simp only at hh hlen hcol htl
    unfold P_stream_Encode_L12
    dsimp only
    rw [hC]
    have hybound : y * (colB R T + 2) ≤ 3 * 28 := Nat.mul_le_mul (by omega) (by omega)
    refine ok_ite (fun hlt => ?_) fun hge => ok_some (by obtain rfl : y = C := (by omega); exact ⟨hh, hlen, hcol, htl⟩)
    refine ok_bd (R := fun r => Wr r.1 r.2 (R * (33 + 12 * T)) ∧ ∀ r', r' < R → TileAt r.1 (r' * (33 + 12 * T)) T (gt c.Tiles ((r' : Int) * C + y))) ?_ ?_
    · refine ok_lp (fun s => ∃ z : Nat, s.1 = z ∧ z ≤ R ∧ Wr s.2.1 s.2.2 (z * (33 + 12 * T)) ∧ ∀ r', r' < z → TileAt s.2.1 (r' * (33 + 12 * T)) T (gt c.Tiles ((r' : Int) * C + y))) (fun s => ((R : Int) - s.1).toNat) ⟨0, rfl, by omega, by simpa using Wr.nil, fun r' hr => by omega⟩ (by simp only; omega) ?_
      rintro ⟨_, d, q⟩ ⟨z, rfl, z1, hw, hvl⟩
      simp only at hw hvl
      unfold P_stream_Encode_L16
      dsimp only
      rw [hR, hC]
      have hz0 : 0 ≤ (z : Int) * C := Int.mul_nonneg (by omega) (by omega)
      have hz1 : (z : Int) * C ≤ 3 * 3 := Int.mul_le_mul (by omega) (by omega) (by omega) (by omega)
      refine ok_ite (fun hlt2 => ok_ar (by omega) (ok_ar (by omega) ?_)) fun hge => ok_some (by rw [show R = z by omega]; exact ⟨hw, hvl⟩)
      have hidx : (z : Int) * C + y < c.Tiles.length := by
        have : ((z : Int) + 1) * C ≤ R * C := Int.mul_le_mul_of_nonneg_right (by omega) (by omega)
        rw [Int.add_mul, Int.one_mul] at this
        rw [hL, hR, hC]; omega
      have hti := h.tile ((z : Int) * C + y) ⟨by omega, hidx⟩
      rw [hT] at hti
      have hzb : z * (33 + 12 * T) ≤ 3 * 69 := Nat.mul_le_mul (by omega) (by omega)
      refine ok_ck ⟨by omega, hidx⟩ (ok_lv ?_)
      rw [hT]
      refine ok_bd (wtile_val hw hT2 hti (by omega)) ?_
      rintro ⟨d2, q2⟩ ⟨w2, s2, v2⟩
      simp only at w2 s2 v2
      refine ok_ar (by omega) (ok_some ⟨⟨z + 1, by simp only; omega, by omega, by simp only; rw [Nat.add_mul, Nat.one_mul]; exact w2, fun r' hr' => ?_⟩, by simp only; omega⟩)
      simp only
      by_cases e : r' = z
      · rw [e]; exact v2
      · have hrz : (r' + 1) * (33 + 12 * T) ≤ z * (33 + 12 * T) := Nat.mul_le_mul_right _ (by omega)
        rw [Nat.add_mul, Nat.one_mul] at hrz
        have hi2 : 0 ≤ (r' : Int) * C := Int.mul_nonneg (by omega) (by omega)
        have hi3 : (r' : Int) * C + y < c.Tiles.length := by
          have : ((r' : Int) + 1) * C ≤ R * C := Int.mul_le_mul_of_nonneg_right (by omega) (by omega)
          rw [Int.add_mul, Int.one_mul] at this
          rw [hL, hR, hC]; omega
        have hti2 := h.tile ((r' : Int) * C + y) ⟨by omega, hi3⟩
        rw [hT] at hti2
        exact (hvl r' (by omega)).same hti2 s2 (by omega)
    rintro ⟨d, q⟩ ⟨hw, hvl⟩
    simp only at hw hvl
    have hdl2 : d.length = colB R T := hw.len
    refine ok_ar (by omega) (ok_bd (closed_ok hw.bytes (by omega) (by omega)) ?_)
    rintro _ rfl
    have hpl : (d ++ tail2 (1 + (y : Int)) d).length = colB R T + 2 := by simp [tail2]; omega
    have htb := tail2_bytes (num := 1 + (y : Int)) hw.bytes (by omega)
    refine ok_lv (ok_ck (by unfold apOk; rw [List.length_append, hpl]; omega) (ok_ar (by omega) (ok_some ⟨⟨y + 1, by simp only; omega, by omega, hh.app (hw.bytes.app htb), ?_, fun z hz => ?_, fun z r' hz hr' => ?_⟩, by simp only; omega⟩)))
    · simp only; rw [List.length_append, hpl, hlen, Nat.add_mul, Nat.one_mul]; omega
    · simp only
      by_cases e : z = y
      · subst e
        have hp := partAt_new (out := out) (data := d) (num := 1 + (z : Int))
        rw [hlen, hdl2] at hp
        refine ⟨?_, fun q0 h0 h1 => ?_⟩
        · have e1 : (((8 + z * (colB R T + 2) : Nat) : Int) + (colB R T : Nat)) = ((8 + z * (colB R T + 2) + colB R T : Nat) : Int) := by omega
          rw [← e1]; exact hp
        · obtain ⟨r, rfl⟩ : ∃ r, q0 = 8 * out.length + r := ⟨q0 - 8 * out.length, by omega⟩
          rw [bitN_appR, bitN_appL (by omega)]
          exact hw.zero r (by omega)
      · have hzy : (z + 1) * (colB R T + 2) ≤ y * (colB R T + 2) := Nat.mul_le_mul_right _ (by omega)
        rw [Nat.add_mul, Nat.one_mul] at hzy
        exact (hcol z (by omega)).app (by omega)
    · simp only
      have hrz : (r' + 1) * (33 + 12 * T) ≤ R * (33 + 12 * T) := Nat.mul_le_mul_right _ (by omega)
      rw [Nat.add_mul, Nat.one_mul] at hrz
      have hi2 : 0 ≤ (r' : Int) * C := Int.mul_nonneg (by omega) (by omega)
      have hi3 : (r' : Int) * C + z < c.Tiles.length := by
        have : ((r' : Int) + 1) * C ≤ R * C := Int.mul_le_mul_of_nonneg_right (by omega) (by omega)
        rw [Int.add_mul, Int.one_mul] at this
        rw [hL, hR, hC]; omega
      have hti2 := h.tile ((r' : Int) * C + z) ⟨by omega, hi3⟩
      rw [hT] at hti2
      by_cases e : z = y
      · subst e
        rw [← hlen]
        exact (hvl r' hr').shift hti2 (by unfold colB at hdl2; omega)
      · have hzy : (z + 1) * (colB R T + 2) ≤ y * (colB R T + 2) := Nat.mul_le_mul_right _ (by omega)
        rw [Nat.add_mul, Nat.one_mul] at hzy
        have hcb : R * (33 + 12 * T) ≤ 8 * colB R T := by unfold colB; omega
        exact (htl z r' (by omega) hr').same hti2 (sameApp _ _) (by omega)
  rintro out ⟨hh, hlen, hcol, htl⟩
  have hCb : C * (colB R T + 2) ≤ 3 * 28 := Nat.mul_le_mul (by omega) (by omega)
  refine ok_bd (wpads_val Wr.nil (ps := c.In) h.inP (by omega) (by omega)) ?_
  rintro ⟨d1, q1⟩ ⟨w1, s1, c1, v1⟩
  simp only [Nat.zero_add] at w1 s1 c1 v1
  refine ok_bd (wpads_val w1 (ps := c.Out) h.outP (by omega) (by omega)) ?_
  rintro ⟨d2, q2⟩ ⟨w2, s2, c2, v2⟩
  simp only at w2 s2 c2 v2
  have hpb : d2.length = padB c.In.length c.Out.length := w2.len
  have hpbits : padBits c.In.length c.Out.length = 8 + 13 * c.In.length + (8 + 13 * c.Out.length) := rfl
  have hpb2 : padB c.In.length c.Out.length = (padBits c.In.length c.Out.length + 7) / 8 := rfl
  refine ok_ar (by omega) ?_
  rw [hC]
  refine ok_bd (closed_ok w2.bytes (by omega) (by omega)) ?_
  rintro _ rfl
  have hpl : (d2 ++ tail2 (1 + (C : Int)) d2).length = padB c.In.length c.Out.length + 2 := by simp [tail2]; omega
  have htb := tail2_bytes (num := 1 + (C : Int)) w2.bytes (by omega)
  refine ok_lv (ok_ck (by unfold apOk; rw [List.length_append, hpl]; omega) (ok_some ⟨rfl, R, C, T, ⟨hR, rfl, hT⟩, ⟨hh.app (w2.bytes.app htb), by simp only; rw [List.length_append, hpl, hlen], fun y hy => ?_, ?_, fun q0 h0 h1 => ?_, ?_, ?_⟩, ⟨fun y r' hy hr' => ?_, ?_, ?_⟩⟩))
  · have hzy : (y + 1) * (colB R T + 2) ≤ C * (colB R T + 2) := Nat.mul_le_mul_right _ (by omega)
    rw [Nat.add_mul, Nat.one_mul] at hzy
    exact (hcol y hy).app (by omega)
  · have hp := partAt_new (out := out) (data := d2) (num := 1 + (C : Int))
    rw [hlen, hpb] at hp
    have e1 : (((8 + C * (colB R T + 2) : Nat) : Int) + (padB c.In.length c.Out.length : Nat)) = ((8 + C * (colB R T + 2) + padB c.In.length c.Out.length : Nat) : Int) := by omega
    rw [← e1]; exact hp
  · obtain ⟨r, rfl⟩ : ∃ r, q0 = 8 * out.length + r := ⟨q0 - 8 * out.length, by omega⟩
    simp only
    rw [bitN_appR, bitN_appL (by omega)]
    exact w2.zero r (by omega)
  · simp only
    have : rdB (out ++ (d2 ++ tail2 (1 + (C : Int)) d2)) (8 * (8 + C * (colB R T + 2))) 8 = rdB d2 0 8 := by
      refine rd_congr fun i hi => ?_
      rw [← hlen, bitN_appR, bitN_appL (by omega)]; simp
    rw [this, rdB_same s2 (by omega)]; exact c1
  · simp only
    have : rdB (out ++ (d2 ++ tail2 (1 + (C : Int)) d2)) (8 * (8 + C * (colB R T + 2)) + (8 + 13 * c.In.length)) 8 = rdB d2 (8 + 13 * c.In.length) 8 := by
      refine rd_congr fun i hi => ?_
      rw [← hlen, Nat.add_assoc, bitN_appR, bitN_appL (by omega)]
    rw [this]; exact c2
  · simp only
    have hzy : (y + 1) * (colB R T + 2) ≤ C * (colB R T + 2) := Nat.mul_le_mul_right _ (by omega)
    rw [Nat.add_mul, Nat.one_mul] at hzy
    have hrz : (r' + 1) * (33 + 12 * T) ≤ R * (33 + 12 * T) := Nat.mul_le_mul_right _ (by omega)
    rw [Nat.add_mul, Nat.one_mul] at hrz
    have hi2 : 0 ≤ (r' : Int) * C := Int.mul_nonneg (by omega) (by omega)
    have hi3 : (r' : Int) * C + y < c.Tiles.length := by
      have : ((r' : Int) + 1) * C ≤ R * C := Int.mul_le_mul_of_nonneg_right (by omega) (by omega)
      rw [Int.add_mul, Int.one_mul] at this
      rw [hL, hR, hC]; omega
    have hti2 := h.tile ((r' : Int) * C + y) ⟨by omega, hi3⟩
    rw [hT] at hti2
    have hcb : R * (33 + 12 * T) ≤ 8 * colB R T := by unfold colB; omega
    exact (htl y r' hy hr').same hti2 (sameApp _ _) (by omega)
  · simp only
    rw [← hlen]
    have := (v1.same s2 (by omega)).shift (a := out) (z := tail2 (1 + (C : Int)) d2) (by omega)
    simpa using this
  · simp only
    rw [← hlen]
    exact v2.shift (by omega)
end Go.Proofs.Ytnooiajahmichaa.X
