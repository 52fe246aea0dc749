/- stream.Encode, whole. Plain. -/
import Derived.Test.YtnooiajahmichaaSH
namespace Go.Proofs.Ytnooiajahmichaa.X
open Go Go.RowKit
set_option linter.unusedVariables false
/-- How many bytes of data a column has. -/
def colB (R T : Nat) : Nat := (R * (33 + 12 * T) + 7) / 8
def padBits (nI nO : Nat) : Nat := 8 + 13 * nI + (8 + 13 * nO)
def padB (nI nO : Nat) : Nat := (padBits nI nO + 7) / 8
/-- A header, and so many columns behind it. -/
structure Head (b : List Int) (R C T : Nat) : Prop where
  bytes : Bytes b
  len : 8 ≤ b.length
  part : PartAt b 0 0 6
  magic : rdB b 0 16 = 19799
  version : rdB b 16 8 = 1
  rows : rdB b 24 8 = R
  cols : rdB b 32 8 = C
  tracks : rdB b 40 8 = T
structure Col (b : List Int) (R T : Nat) (num : Int) (o : Nat) : Prop where
  part : PartAt b num o (o + colB R T : Nat)
  zero : ∀ q, 8 * o + R * (33 + 12 * T) ≤ q → q < 8 * (o + colB R T) → bitN b q = 0
theorem sameApp (b z : List Int) : Same b (b ++ z) (8 * b.length) := fun p hp => bitN_appL hp
theorem Head.app {b z : List Int} {R C T : Nat} (h : Head b R C T) (hz : Bytes z) : Head (b ++ z) R C T := by
  have hl := h.len
  have hs := sameApp b z
  exact ⟨h.bytes.app hz, by simp only [List.length_append]; omega, h.part.app (by omega) (by omega) (by omega), by rw [rdB_same hs (by omega)]; exact h.magic, by rw [rdB_same hs (by omega)]; exact h.version,
    by rw [rdB_same hs (by omega)]; exact h.rows, by rw [rdB_same hs (by omega)]; exact h.cols, by rw [rdB_same hs (by omega)]; exact h.tracks⟩
theorem Col.app {b z : List Int} {R T : Nat} {num : Int} {o : Nat} (h : Col b R T num o) (hl : o + colB R T + 2 ≤ b.length) : Col (b ++ z) R T num o :=
  ⟨h.part.app (by omega) (by omega) (by omega), fun q h0 h1 => by rw [bitN_appL (by omega)]; exact h.zero q h0 h1⟩
/-- What Encode returns. -/
structure Layout (b : List Int) (R C T nI nO : Nat) : Prop where
  head : Head b R C T
  len : b.length = 8 + C * (colB R T + 2) + (padB nI nO + 2)
  col : ∀ y, y < C → Col b R T (1 + y) (8 + y * (colB R T + 2))
  pad : PartAt b (1 + C) (8 + C * (colB R T + 2) : Nat) (8 + C * (colB R T + 2) + padB nI nO : Nat)
  padz : ∀ q, 8 * (8 + C * (colB R T + 2)) + padBits nI nO ≤ q → q < 8 * (8 + C * (colB R T + 2) + padB nI nO) → bitN b q = 0
  cI : rdB b (8 * (8 + C * (colB R T + 2))) 8 = nI
  cO : rdB b (8 * (8 + C * (colB R T + 2)) + (8 + 13 * nI)) 8 = nO
theorem Wr.len {b : List Int} {left : Int} {L : Nat} (h : Wr b left L) : b.length = (L + 7) / 8 := by
  have h1 := h.eq
  have h2 := h.lo
  have h3 := h.hi
  omega
theorem Encode_ok {c : T_array_Config} (h : ConfOk c) : Ok (P_stream_Encode c) (fun r => r.2 = 0 ∧ ∃ R C T : Nat, (c.Rows = R ∧ c.Cols = C ∧ c.Tracks = T) ∧ Layout r.1 R C T c.In.length c.Out.length) := by
  have a1 := h.rows
  have a2 := h.cols
  have a3 := h.tracks
  have hL := h.tilesL
  have hM := h.Mb
  have hil := h.inL
  have hol := h.outL
  obtain ⟨R, hR⟩ := Int.eq_ofNat_of_zero_le (by omega : 0 ≤ c.Rows)
  obtain ⟨C, hC⟩ := Int.eq_ofNat_of_zero_le (by omega : 0 ≤ c.Cols)
  obtain ⟨T, hT⟩ := Int.eq_ofNat_of_zero_le (by omega : 0 ≤ c.Tracks)
  have hT2 : T = 2 ∨ T = 3 := by omega
  have hdl : 5 ≤ colB R T ∧ colB R T ≤ 26 := by
    unfold colB
    rcases (by omega : R = 1 ∨ R = 2 ∨ R = 3) with e | e | e <;> rcases hT2 with e2 | e2 <;> subst e e2 <;> omega
  unfold P_stream_Encode
  refine ok_bd (Check_ok h) ?_
  rintro _ rfl
  refine ok_f (by simp) (ok_bd (wput Wr.nil (v := 19799) (mn := 16) rfl (by omega) (by omega) (by omega)) ?_)
  rintro ⟨b1, q1⟩ ⟨w1, p1⟩
  refine ok_bd (wput w1 (v := 1) (mn := 8) rfl (by omega) (by omega) (by omega)) ?_
  rintro ⟨b2, q2⟩ ⟨w2, p2⟩
  refine ok_lv (ok_bd (wput w2 (mn := 8) rfl (by omega) (by omega) (by omega)) ?_)
  rintro ⟨b3, q3⟩ ⟨w3, p3⟩
  refine ok_lv (ok_bd (wput w3 (mn := 8) rfl (by omega) (by omega) (by omega)) ?_)
  rintro ⟨b4, q4⟩ ⟨w4, p4⟩
  refine ok_lv (ok_bd (wput w4 (mn := 8) rfl (by omega) (by omega) (by omega)) ?_)
  rintro ⟨b5, q5⟩ ⟨w5, p5⟩
  simp only at w1 p1 w2 p2 w3 p3 w4 p4 w5 p5
  have h256 : (2 : Nat) ^ 8 = 256 := by decide
  have r1 := p1.rd (by decide)
  have r2 := p2.rd (by decide)
  have r3 := p3.rd (by rw [h256]; omega)
  have r4 := p4.rd (by rw [h256]; omega)
  have r5 := p5.rd (by rw [h256]; omega)
  have s5 := p5.same
  have s4 := p4.same.trans s5 (by omega)
  have s3 := p3.same.trans s4 (by omega)
  have s2 := p2.same.trans s3 (by omega)
  have hl5 := w5.len
  simp only [Nat.zero_add] at hl5 r1 r2 r3 r4 r5 s5 s4 s3 s2
  refine ok_bd (closed_ok w5.bytes (num := 0) (by omega) (by omega)) ?_
  rintro out0 hout0
  have hhead : Head out0 R C T := by
    have hl0 : out0.length = 8 := by rw [hout0]; simp [tail2]; omega
    have hs0 : Same b5 out0 48 := by rw [hout0]; exact fun p hp => bitN_appL (by omega)
    have hp := partAt_new (out := []) (data := b5) (num := 0)
    refine ⟨by rw [hout0]; exact w5.bytes.app (tail2_bytes w5.bytes (by omega)), by omega, ?_, ?_, ?_, ?_, ?_, ?_⟩
    · rw [hout0]
      simpa [hl5] using hp
    · rw [rdB_same hs0 (by omega), rdB_same s2 (by omega), r1]; decide
    · rw [rdB_same hs0 (by omega), rdB_same s3 (by omega), r2]; decide
    · rw [rdB_same hs0 (by omega), rdB_same s4 (by omega), r3]; omega
    · rw [rdB_same hs0 (by omega), rdB_same s5 (by omega), r4]; omega
    · rw [rdB_same hs0 (by omega), r5]; omega
  have hl0 : out0.length = 8 := by rw [hout0]; simp [tail2]; omega
  clear hout0 r1 r2 r3 r4 r5 s5 s4 s3 s2 hl5 w1 w2 w3 w4 w5 p1 p2 p3 p4 p5
  refine ok_bd (R := fun o => Head o R C T ∧ o.length = 8 + C * (colB R T + 2) ∧ ∀ y, y < C → Col o R T (1 + y) (8 + y * (colB R T + 2))) ?_ ?_
  · refine ok_lp (fun s => ∃ y : Nat, s.2 = y ∧ y ≤ C ∧ Head s.1 R C T ∧ s.1.length = 8 + y * (colB R T + 2) ∧ ∀ z, z < y → Col s.1 R T (1 + z) (8 + z * (colB R T + 2))) (fun s => ((C : Int) - s.2).toNat) ⟨0, rfl, by omega, hhead, by simp only; omega, fun z hz => by omega⟩ (by simp only; omega) ?_
    rintro ⟨out, _⟩ ⟨y, rfl, y1, hh, hlen, hcol⟩
    simp only at hh hlen hcol
    unfold P_stream_Encode_L12
    dsimp only
    rw [hC]
    have hybound : y * (colB R T + 2) ≤ 3 * 28 := Nat.mul_le_mul (by omega) (by omega)
    refine ok_ite (fun hlt => ?_) fun hge => ok_some (by rw [show C = y by omega]; exact ⟨by rw [show y = C by omega]; exact hh, hlen, hcol⟩)
    refine ok_bd (R := fun r => Wr r.1 r.2 (R * (33 + 12 * T))) ?_ ?_
    · refine ok_lp (fun s => ∃ z : Nat, s.1 = z ∧ z ≤ R ∧ Wr s.2.1 s.2.2 (z * (33 + 12 * T))) (fun s => ((R : Int) - s.1).toNat) ⟨0, rfl, by omega, by simpa using Wr.nil⟩ (by simp only; omega) ?_
      rintro ⟨_, d, q⟩ ⟨z, rfl, z1, hw⟩
      simp only at hw
      unfold P_stream_Encode_L16
      dsimp only
      rw [hR, hC]
      have hz0 : 0 ≤ (z : Int) * C := Int.mul_nonneg (by omega) (by omega)
      have hz1 : (z : Int) * C ≤ 3 * 3 := Int.mul_le_mul (by omega) (by omega) (by omega) (by omega)
      refine ok_ite (fun hlt2 => ok_ar (by omega) (ok_ar (by omega) ?_)) fun hge => ok_some (by rw [show R = z by omega]; exact hw)
      have hidx : (z : Int) * C + y < c.Tiles.length := by
        have : ((z : Int) + 1) * C ≤ R * C := Int.mul_le_mul_of_nonneg_right (by omega) (by omega)
        rw [Int.add_mul, Int.one_mul] at this
        rw [hL, hR, hC]; omega
      have hti := h.tile ((z : Int) * C + y) ⟨by omega, hidx⟩
      rw [hT] at hti
      have hzb : z * (33 + 12 * T) ≤ 3 * 69 := Nat.mul_le_mul (by omega) (by omega)
      refine ok_ck ⟨by omega, hidx⟩ (ok_lv ?_)
      rw [hT]
      refine ok_bd (wtile_ok hw hT2 hti (by omega)) ?_
      rintro ⟨d2, q2⟩ ⟨w2, -⟩
      simp only at w2
      exact ok_ar (by omega) (ok_some ⟨⟨z + 1, by simp only; omega, by omega, by simp only; rw [Nat.add_mul, Nat.one_mul]; exact w2⟩, by simp only; omega⟩)
    rintro ⟨d, q⟩ hw
    simp only at hw
    have hdl2 : d.length = colB R T := hw.len
    refine ok_ar (by omega) (ok_bd (closed_ok hw.bytes (by omega) (by omega)) ?_)
    rintro _ rfl
    have hpl : (d ++ tail2 (1 + (y : Int)) d).length = colB R T + 2 := by simp [tail2]; omega
    have htb := tail2_bytes (num := 1 + (y : Int)) hw.bytes (by omega)
    refine ok_lv (ok_ck (by unfold apOk; rw [List.length_append, hpl]; omega) (ok_ar (by omega) (ok_some ⟨⟨y + 1, by simp only; omega, by omega, hh.app (hw.bytes.app htb), ?_, fun z hz => ?_⟩, by simp only; omega⟩)))
    · simp only; rw [List.length_append, hpl, hlen, Nat.add_mul, Nat.one_mul]; omega
    · simp only
      by_cases e : z = y
      · subst e
        have hp := partAt_new (out := out) (data := d) (num := 1 + (z : Int))
        rw [hlen, hdl2] at hp
        refine ⟨?_, fun q0 h0 h1 => ?_⟩
        · have e1 : (((8 + z * (colB R T + 2) : Nat) : Int) + (colB R T : Nat)) = ((8 + z * (colB R T + 2) + colB R T : Nat) : Int) := by omega
          rw [← e1]; exact hp
        · obtain ⟨r, rfl⟩ : ∃ r, q0 = 8 * out.length + r := ⟨q0 - 8 * out.length, by omega⟩
          rw [bitN_appR, bitN_appL (by omega)]
          exact hw.zero r (by omega)
      · have hzy : (z + 1) * (colB R T + 2) ≤ y * (colB R T + 2) := Nat.mul_le_mul_right _ (by omega)
        rw [Nat.add_mul, Nat.one_mul] at hzy
        exact (hcol z (by omega)).app (by omega)
  rintro out ⟨hh, hlen, hcol⟩
  have hCb : C * (colB R T + 2) ≤ 3 * 28 := Nat.mul_le_mul (by omega) (by omega)
  refine ok_bd (wpads_ok Wr.nil (ps := c.In) (by omega) (by omega)) ?_
  rintro ⟨d1, q1⟩ ⟨w1, s1, c1⟩
  simp only [Nat.zero_add] at w1 s1 c1
  refine ok_bd (wpads_ok w1 (ps := c.Out) (by omega) (by omega)) ?_
  rintro ⟨d2, q2⟩ ⟨w2, s2, c2⟩
  simp only at w2 s2 c2
  have hpb : d2.length = padB c.In.length c.Out.length := w2.len
  have hpbits : padBits c.In.length c.Out.length = 8 + 13 * c.In.length + (8 + 13 * c.Out.length) := rfl
  have hpb2 : padB c.In.length c.Out.length = (padBits c.In.length c.Out.length + 7) / 8 := rfl
  refine ok_ar (by omega) ?_
  rw [hC]
  refine ok_bd (closed_ok w2.bytes (by omega) (by omega)) ?_
  rintro _ rfl
  have hpl : (d2 ++ tail2 (1 + (C : Int)) d2).length = padB c.In.length c.Out.length + 2 := by simp [tail2]; omega
  have htb := tail2_bytes (num := 1 + (C : Int)) w2.bytes (by omega)
  refine ok_lv (ok_ck (by unfold apOk; rw [List.length_append, hpl]; omega) (ok_some ⟨rfl, R, C, T, ⟨hR, rfl, hT⟩, hh.app (w2.bytes.app htb), by simp only; rw [List.length_append, hpl, hlen], fun y hy => ?_, ?_, fun q0 h0 h1 => ?_, ?_, ?_⟩))
  · have hzy : (y + 1) * (colB R T + 2) ≤ C * (colB R T + 2) := Nat.mul_le_mul_right _ (by omega)
    rw [Nat.add_mul, Nat.one_mul] at hzy
    exact (hcol y hy).app (by omega)
  · have hp := partAt_new (out := out) (data := d2) (num := 1 + (C : Int))
    rw [hlen, hpb] at hp
    have e1 : (((8 + C * (colB R T + 2) : Nat) : Int) + (padB c.In.length c.Out.length : Nat)) = ((8 + C * (colB R T + 2) + padB c.In.length c.Out.length : Nat) : Int) := by omega
    rw [← e1]; exact hp
  · obtain ⟨r, rfl⟩ : ∃ r, q0 = 8 * out.length + r := ⟨q0 - 8 * out.length, by omega⟩
    simp only
    rw [bitN_appR, bitN_appL (by omega)]
    exact w2.zero r (by omega)
  · simp only
    have : rdB (out ++ (d2 ++ tail2 (1 + (C : Int)) d2)) (8 * (8 + C * (colB R T + 2))) 8 = rdB d2 0 8 := by
      refine rd_congr fun i hi => ?_
      rw [← hlen, bitN_appR, bitN_appL (by omega)]; simp
    rw [this, rdB_same s2 (by omega)]; exact c1
  · simp only
    have : rdB (out ++ (d2 ++ tail2 (1 + (C : Int)) d2)) (8 * (8 + C * (colB R T + 2)) + (8 + 13 * c.In.length)) 8 = rdB d2 (8 + 13 * c.In.length) 8 := by
      refine rd_congr fun i hi => ?_
      rw [← hlen, Nat.add_assoc, bitN_appR, bitN_appL (by omega)]
    rw [this]; exact c2
end Go.Proofs.Ytnooiajahmichaa.X
