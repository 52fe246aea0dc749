/- Tiles are read as they were written. Plain. -/
import Derived.Test.YtnooiajahmichaaSL
namespace Go.Proofs.Ytnooiajahmichaa.X
open Go Go.RowKit
set_option linter.unusedVariables false
set_option linter.unusedSimpArgs false
theorem rtile_loopV {x : List Int} (hx : Bytes x) (hl : x.length ≤ 100000) {xs : List Int} {T : Nat} (hT : (xs.length : Int) = T) (hT2 : T ≤ 100) {body : (Int × Int × Bool × List Int) → Option ((Int × Int × Bool × List Int) ⊕ (Int × Bool × List Int))}
    (hb : ∀ y p o xs, body (y, p, o, xs) = (if y < (T : Int) then bd (P_stream_reader_bits (T_stream_reader.mk x p o) 3) fun r => X.lv (xs ++ [r.1]) fun z => ck (apOk 8 z.length) <| ar (y + 1) fun y2 => some (Sum.inl (y2, r.2.1, r.2.2, z)) else some (Sum.inr (p, o, xs))))
    {p : Int} {pn : Nat} (hp : p = pn) (h1 : pn ≤ 100000) (hr : RowAt x pn xs) {ov : Bool} : Ok (lp body fuel (0, p, ov, [])) (fun r => r.1 = (pn + 3 * T : Nat) ∧ r.2.2 = xs) := by
  subst hp
  refine ok_lp (fun s => ∃ y : Nat, s.1 = y ∧ y ≤ T ∧ s.2.1 = (pn + 3 * y : Nat) ∧ s.2.2.2.length = y ∧ ∀ z : Nat, z < y → gt s.2.2.2 (z : Int) = gt xs z) (fun s => ((T : Int) - s.1).toNat) ⟨0, rfl, by omega, rfl, rfl, fun z hz => by omega⟩ (by simp only; omega) ?_
  rintro ⟨_, _, o, ys⟩ ⟨y, rfl, y1, rfl, y2, y3⟩
  simp only at y2 y3
  rw [hb]
  refine ok_ite (fun hlt => ok_bd (rget hx hl rfl (mn := 3) rfl (by omega) (by omega)) ?_) fun hge => ok_some ⟨by simp only; omega, ?_⟩
  · rintro ⟨v, q, o2⟩ ⟨hv, rfl⟩
    simp only at hv
    refine ok_lv (ok_ck ?_ (ok_ar (by omega) (ok_some ⟨⟨y + 1, by simp only; omega, by omega, by simp only; omega, by simp only [List.length_append, List.length_singleton]; omega, fun z hz => ?_⟩, by simp only; omega⟩)))
    · simp only [List.length_append, List.length_singleton]; omega
    · simp only
      by_cases e : z = y
      · rw [gt_app_1 (by omega), hv, e]; exact hr y (by omega)
      · rw [gt_app_l (by omega)]; exact y3 z (by omega)
  · refine ext_gt (by simp only; omega) fun j j0 j1 => ?_
    obtain ⟨z, rfl⟩ := Int.eq_ofNat_of_zero_le j0
    simp only at j1 ⊢
    exact y3 z (by omega)
theorem rtile_val {x : List Int} (hx : Bytes x) (hl : x.length ≤ 100000) {T : Nat} (hT : T = 2 ∨ T = 3) {p : Int} {pn : Nat} (hp : p = pn) (h1 : pn ≤ 10000) {t : T_array_Tile} (ht : TileOk T t) (h : TileAt x pn T t) {ov : Bool} : Ok (P_stream_reader_tile (T_stream_reader.mk x p ov) T) (fun r => r.1 = t ∧ r.2.1 = (pn + (33 + 12 * T) : Nat)) := by
  have hsz : (1 : Int) + 4 * (T : Int) = 9 ∨ (1 : Int) + 4 * (T : Int) = 13 := by omega
  have g := ht.table
  unfold P_stream_reader_tile
  refine ok_bd (rget hx hl hp (mn := 16) rfl (by omega) (by omega)) ?_
  rintro ⟨v1, q1, o1⟩ ⟨e1, rfl⟩
  refine ok_lv' fun x10 e10 => ok_bd (rget hx hl rfl (mn := 1) rfl (by omega) (by omega)) ?_
  rintro ⟨v2, q2, o2⟩ ⟨e2, rfl⟩
  refine ok_ar (by omega) (ok_ar (by omega) (ok_bd (size_ok hsz) ?_))
  rintro _ rfl
  refine ok_bd (rget hx hl rfl (mn := 4) rfl (by omega) (by omega)) ?_
  rintro ⟨v3, q3, o3⟩ ⟨e3, rfl⟩
  refine ok_ar (by omega) (ok_ar (by omega) (ok_bd (size_ok hsz) ?_))
  rintro _ rfl
  refine ok_bd (rget hx hl rfl (mn := 4) rfl (by omega) (by omega)) ?_
  rintro ⟨v4, q4, o4⟩ ⟨e4, rfl⟩
  refine ok_ar (by omega) (ok_ar (by omega) (ok_bd (size_ok hsz) ?_))
  rintro _ rfl
  refine ok_bd (rget hx hl rfl (mn := 4) rfl (by omega) (by omega)) ?_
  rintro ⟨v5, q5, o5⟩ ⟨e5, rfl⟩
  refine ok_ar (by omega) (ok_ar (by omega) (ok_bd (size_ok hsz) ?_))
  rintro _ rfl
  refine ok_bd (rget hx hl rfl (mn := 4) rfl (by omega) (by omega)) ?_
  rintro ⟨v6, q6, o6⟩ ⟨e6, rfl⟩
  simp only at e1 e2 e3 e4 e5 e6 e10
  refine ok_bd (rtile_loopV hx hl (T := T) ht.l0 (by omega) (fun _ _ _ _ => rfl) rfl (by omega) h.o0) ?_
  rintro ⟨q7, o7, l7⟩ ⟨rfl, f7⟩
  refine ok_bd (rtile_loopV hx hl (T := T) ht.l1 (by omega) (fun _ _ _ _ => rfl) (pn := pn + 33 + 3 * T) (by omega) (by omega) h.o1) ?_
  rintro ⟨q8, o8, l8⟩ ⟨rfl, f8⟩
  refine ok_bd (rtile_loopV hx hl (T := T) ht.l2 (by omega) (fun _ _ _ _ => rfl) (pn := pn + 33 + 6 * T) (by omega) (by omega) h.o2) ?_
  rintro ⟨q9, o9, l9⟩ ⟨rfl, f9⟩
  refine ok_bd (rtile_loopV hx hl (T := T) ht.l3 (by omega) (fun _ _ _ _ => rfl) (pn := pn + 33 + 9 * T) (by omega) (by omega) h.o3) ?_
  rintro ⟨q10, o10, l10⟩ ⟨rfl, f10⟩
  simp only at f7 f8 f9 f10
  subst f7 f8 f9 f10
  refine ok_some ⟨?_, by simp only; omega⟩
  have a1 := h.table
  have a2 := h.init
  have a3 := h.i0
  have a4 := h.i1
  have a5 := h.i2
  have a6 := h.i3
  rw [← e1] at a1
  rw [← e2] at a2
  have k3 : v3 = t.In.fe0 := by rw [e3, ← a3]
  have k4 : v4 = t.In.fe1 := by rw [e4, ← a4]
  have k5 : v5 = t.In.fe2 := by rw [e5, ← a5]
  have k6 : v6 = t.In.fe3 := by rw [e6, ← a6]
  have k1 : x10 = t.Table := by omega
  have k2 : decide (v2 = 1) = t.Init := by
    rw [a2]; cases t.Init <;> simp
  simp only
  rw [k1, k2, k3, k4, k5, k6]
end Go.Proofs.Ytnooiajahmichaa.X
