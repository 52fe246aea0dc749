/- What the writer of tiles and pads writes. Plain. -/
import Derived.Test.YtnooiajahmichaaSJ
namespace Go.Proofs.Ytnooiajahmichaa.X
open Go Go.RowKit
set_option linter.unusedVariables false
set_option linter.unusedSimpArgs false
theorem Each.mono {α : Type} [Inhabited α] {p q : Int → α → Prop} {xs : List α} (h : Each p xs) (hpq : ∀ i x, p i x → q i x) : Each q xs := fun i hi => hpq i _ (h i hi)
def Small8 (xs : List Int) : Prop := Each (fun _ x => 0 ≤ x ∧ x < 8) xs
theorem OutNW.small {xs : List Int} (h : Each (fun _ x => OutNW x) xs) : Small8 xs := h.mono fun i x hx => by
  unfold OutNW at hx; omega
theorem OutES.small {xs : List Int} (h : Each (fun _ x => OutES x) xs) : Small8 xs := h.mono fun i x hx => by
  unfold OutES at hx; omega
theorem InOk.small {T x : Int} (h : InOk T x) (hT : 2 ≤ T ∧ T ≤ 3) : 0 ≤ x ∧ x < 16 := by
  unfold InOk at h; omega
theorem pow3 : (2 : Nat) ^ 3 = 8 := by decide
theorem pow4 : (2 : Nat) ^ 4 = 16 := by decide
/-- A row of small numbers, three bits each. -/
def RowAt (b : List Int) (p : Nat) (xs : List Int) : Prop := ∀ y : Nat, y < xs.length → (rdB b (p + 3 * y) 3 : Int) = gt xs y
theorem RowAt.same {b b' : List Int} {p L : Nat} {xs : List Int} (h : RowAt b p xs) (hs : Same b b' L) (hl : p + 3 * xs.length ≤ L) : RowAt b' p xs := fun y hy => by
  rw [rdB_same hs (by omega)]; exact h y hy
theorem tile_loopV {xs : List Int} (h8 : Small8 xs) {body : (Int × List Int × Int) → Option ((Int × List Int × Int) ⊕ (List Int × Int))}
    (hb : ∀ y b l, body (y, b, l) = (if y < (xs.length : Int) then ck (inb y xs.length) <| X.lv (gt xs y) fun x => X.lv (x % 18446744073709551616) fun x50 => bd (P_stream_writer_bits_2 (T_stream_writer.mk b l) x50 3) fun r => ar (y + 1) fun x52 => some (Sum.inl (x52, r.1, r.2)) else some (Sum.inr (b, l))))
    {b : List Int} {left : Int} {L : Nat} (h : Wr b left L) (hl : L ≤ 100000) (hx : xs.length ≤ 100) : Ok (lp body fuel (0, b, left)) (fun r => Wr r.1 r.2 (L + 3 * xs.length) ∧ Same b r.1 L ∧ RowAt r.1 L xs) := by
  refine ok_lp (fun s => ∃ y : Nat, s.1 = y ∧ y ≤ xs.length ∧ Wr s.2.1 s.2.2 (L + 3 * y) ∧ Same b s.2.1 L ∧ ∀ z : Nat, z < y → (rdB s.2.1 (L + 3 * z) 3 : Int) = gt xs z) (fun s => ((xs.length : Int) - s.1).toNat) ⟨0, rfl, by omega, h, fun p _ => rfl, fun z hz => by omega⟩ (by simp only; omega) ?_
  rintro ⟨_, b1, l1⟩ ⟨y, rfl, y1, hw, hs, hv⟩
  simp only at hw hs hv
  rw [hb]
  refine ok_ite (fun hlt => ok_ck ⟨by omega, hlt⟩ (ok_lv (ok_lv (ok_bd (wput hw (mn := 3) rfl (by omega) (by omega) (by omega)) ?_)))) fun hge => ok_some (by rw [show xs.length = y by omega]; exact ⟨hw, hs, fun z hz => hv z (by omega)⟩)
  rintro ⟨b2, l2⟩ ⟨h1, h2⟩
  simp only at h1 h2
  refine ok_ar (by omega) (ok_some ⟨⟨y + 1, by simp only; omega, by omega, by simp only; rw [show L + 3 * (y + 1) = L + 3 * y + 3 by omega]; exact h1, hs.trans h2.same (by omega), fun z hz => ?_⟩, by simp only; omega⟩)
  have hg := h8 y ⟨by omega, hlt⟩
  simp only at hg
  simp only
  by_cases e : z = y
  · subst e
    rw [h2.rd (by rw [pow3]; omega)]; omega
  · rw [rdB_same h2.same (by omega)]; exact hv z (by omega)
/-- A tile, written from bit p on. -/
structure TileAt (b : List Int) (p T : Nat) (t : T_array_Tile) : Prop where
  table : (rdB b p 16 : Int) = t.Table
  init : (rdB b (p + 16) 1 : Int) = if t.Init = true then 1 else 0
  i0 : (rdB b (p + 17) 4 : Int) = t.In.fe0
  i1 : (rdB b (p + 21) 4 : Int) = t.In.fe1
  i2 : (rdB b (p + 25) 4 : Int) = t.In.fe2
  i3 : (rdB b (p + 29) 4 : Int) = t.In.fe3
  o0 : RowAt b (p + 33) t.Out.fe0
  o1 : RowAt b (p + 33 + 3 * T) t.Out.fe1
  o2 : RowAt b (p + 33 + 6 * T) t.Out.fe2
  o3 : RowAt b (p + 33 + 9 * T) t.Out.fe3
theorem TileAt.same {b b' : List Int} {p T L : Nat} {t : T_array_Tile} (h : TileAt b p T t) (ht : TileOk T t) (hs : Same b b' L) (hl : p + (33 + 12 * T) ≤ L) : TileAt b' p T t := by
  have l0 := ht.l0
  have l1 := ht.l1
  have l2 := ht.l2
  have l3 := ht.l3
  exact ⟨by rw [rdB_same hs (by omega)]; exact h.table, by rw [rdB_same hs (by omega)]; exact h.init, by rw [rdB_same hs (by omega)]; exact h.i0, by rw [rdB_same hs (by omega)]; exact h.i1, by rw [rdB_same hs (by omega)]; exact h.i2, by rw [rdB_same hs (by omega)]; exact h.i3,
    h.o0.same hs (by omega), h.o1.same hs (by omega), h.o2.same hs (by omega), h.o3.same hs (by omega)⟩
theorem wtile_val {b : List Int} {left : Int} {L T : Nat} (h : Wr b left L) {t : T_array_Tile} (hT : T = 2 ∨ T = 3) (ht : TileOk T t) (hl : L ≤ 10000) : Ok (P_stream_writer_tile_2 (T_stream_writer.mk b left) t T) (fun r => Wr r.1 r.2 (L + (33 + 12 * T)) ∧ Same b r.1 L ∧ TileAt r.1 L T t) := by
  have l0 := ht.l0
  have l1 := ht.l1
  have l2 := ht.l2
  have l3 := ht.l3
  have g := ht.table
  have g0 := ht.i0.small (by omega)
  have g1 := ht.i1.small (by omega)
  have g2 := ht.i2.small (by omega)
  have g3 := ht.i3.small (by omega)
  have pow16 : (2 : Nat) ^ 16 = 65536 := by decide
  have hsz : (1 : Int) + 4 * (T : Int) = 9 ∨ (1 : Int) + 4 * (T : Int) = 13 := by omega
  unfold P_stream_writer_tile_2
  refine ok_lv (ok_bd (wput h (mn := 16) rfl (by omega) (by omega) (by omega)) ?_)
  rintro ⟨b1, q1⟩ ⟨w1, p1⟩
  refine ok_bd (R := fun x => x = if t.Init = true then 1 else 0) (ok_ite (fun c => ok_some (by rw [if_pos c])) fun c => ok_some (by rw [if_neg c])) fun x hx => ok_bd (wput w1 (mn := 1) rfl (by split at hx <;> omega) (by omega) (by omega)) ?_
  rintro ⟨b2, q2⟩ ⟨w2, p2⟩
  refine ok_lv (ok_ar (by omega) (ok_ar (by omega) (ok_bd (size_ok hsz) ?_)))
  rintro _ rfl
  refine ok_bd (wput w2 (mn := 4) rfl (by omega) (by omega) (by omega)) ?_
  rintro ⟨b3, q3⟩ ⟨w3, p3⟩
  refine ok_lv (ok_ar (by omega) (ok_ar (by omega) (ok_bd (size_ok hsz) ?_)))
  rintro _ rfl
  refine ok_bd (wput w3 (mn := 4) rfl (by omega) (by omega) (by omega)) ?_
  rintro ⟨b4, q4⟩ ⟨w4, p4⟩
  refine ok_lv (ok_ar (by omega) (ok_ar (by omega) (ok_bd (size_ok hsz) ?_)))
  rintro _ rfl
  refine ok_bd (wput w4 (mn := 4) rfl (by omega) (by omega) (by omega)) ?_
  rintro ⟨b5, q5⟩ ⟨w5, p5⟩
  refine ok_lv (ok_ar (by omega) (ok_ar (by omega) (ok_bd (size_ok hsz) ?_)))
  rintro _ rfl
  refine ok_bd (wput w5 (mn := 4) rfl (by omega) (by omega) (by omega)) ?_
  rintro ⟨b6, q6⟩ ⟨w6, p6⟩
  simp only at w1 p1 w2 p2 w3 p3 w4 p4 w5 p5 w6 p6
  refine ok_bd (tile_loopV (OutNW.small ht.o0) (body := P_stream_writer_tile_2_L15u4 t) (fun _ _ _ => rfl) w6 (by omega) (by omega)) ?_
  rintro ⟨b7, q7⟩ ⟨w7, s7, v7⟩
  simp only at w7 s7 v7
  refine ok_bd (tile_loopV (OutES.small ht.o1) (body := P_stream_writer_tile_2_L15u3 t) (fun _ _ _ => rfl) w7 (by omega) (by omega)) ?_
  rintro ⟨b8, q8⟩ ⟨w8, s8, v8⟩
  simp only at w8 s8 v8
  refine ok_bd (tile_loopV (OutES.small ht.o2) (body := P_stream_writer_tile_2_L15u2 t) (fun _ _ _ => rfl) w8 (by omega) (by omega)) ?_
  rintro ⟨b9, q9⟩ ⟨w9, s9, v9⟩
  simp only at w9 s9 v9
  refine ok_bd (tile_loopV (OutNW.small ht.o3) (body := P_stream_writer_tile_2_L15u1 t) (fun _ _ _ => rfl) w9 (by omega) (by omega)) ?_
  rintro ⟨b10, q10⟩ ⟨w10, s10, v10⟩
  simp only at w10 s10 v10
  have r8 := s9.trans s10 (by omega)
  have r7 := s8.trans r8 (by omega)
  have r6 := s7.trans r7 (by omega)
  have r5 := p6.same.trans r6 (by omega)
  have r4 := p5.same.trans r5 (by omega)
  have r3 := p4.same.trans r4 (by omega)
  have r2 := p3.same.trans r3 (by omega)
  have r1 := p2.same.trans r2 (by omega)
  refine ok_some ⟨?_, p1.same.trans r1 (by omega), ?_⟩
  · rw [show L + (33 + 12 * T) = L + 16 + 1 + 4 + 4 + 4 + 4 + 3 * t.Out.fe0.length + 3 * t.Out.fe1.length + 3 * t.Out.fe2.length + 3 * t.Out.fe3.length by omega]
    exact w10
  · refine ⟨?_, ?_, ?_, ?_, ?_, ?_, ?_, ?_, ?_, ?_⟩
    · simp only; rw [rdB_same r1 (by omega), p1.rd (by rw [pow16]; omega)]; omega
    · simp only; rw [rdB_same r2 (by omega), p2.rd (by split at hx <;> omega), ← hx]; split at hx <;> omega
    · simp only; rw [show L + 17 = L + 16 + 1 by omega, rdB_same r3 (by omega), p3.rd (by rw [pow4]; omega)]; omega
    · simp only; rw [show L + 21 = L + 16 + 1 + 4 by omega, rdB_same r4 (by omega), p4.rd (by rw [pow4]; omega)]; omega
    · simp only; rw [show L + 25 = L + 16 + 1 + 4 + 4 by omega, rdB_same r5 (by omega), p5.rd (by rw [pow4]; omega)]; omega
    · simp only; rw [show L + 29 = L + 16 + 1 + 4 + 4 + 4 by omega, rdB_same r6 (by omega), p6.rd (by rw [pow4]; omega)]; omega
    · simp only; rw [show L + 33 = L + 16 + 1 + 4 + 4 + 4 + 4 by omega]; exact v7.same r7 (by omega)
    · simp only; rw [show L + 33 + 3 * T = L + 16 + 1 + 4 + 4 + 4 + 4 + 3 * t.Out.fe0.length by omega]; exact v8.same r8 (by omega)
    · simp only; rw [show L + 33 + 6 * T = L + 16 + 1 + 4 + 4 + 4 + 4 + 3 * t.Out.fe0.length + 3 * t.Out.fe1.length by omega]; exact v9.same s10 (by omega)
    · simp only; rw [show L + 33 + 9 * T = L + 16 + 1 + 4 + 4 + 4 + 4 + 3 * t.Out.fe0.length + 3 * t.Out.fe1.length + 3 * t.Out.fe2.length by omega]; exact v10
end Go.Proofs.Ytnooiajahmichaa.X
