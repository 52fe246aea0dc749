/- array.Check takes the configurations of a stream. Plain. -/
import Derived.Test.YtnooiajahmichaaSE
namespace Go.Proofs.Ytnooiajahmichaa.X
open Go Go.RowKit
set_option linter.unusedVariables false
set_option linter.unusedSimpArgs false
set_option linter.unnecessarySimpa false
section
variable {c : T_array_Config}
theorem order_val (h : ConfOk c) : Ok (P_array_order c) (fun r => r.2 = true ∧ OutP c r.1 ∧ (r.1.length : Int) ≤ 2000000000) := by
  have hb := h.wb
  have h3 := h.tracks
  unfold P_array_order
  have hw : (c.Tiles.length : Int) * 4 * c.Tracks = wiresN c := rfl
  refine ok_ar (by omega) ?_
  rw [hw]
  refine ok_ar (by omega) (ok_ar (by omega) (ok_ck ⟨by omega, by omega⟩ (ok_lv' fun z ez => ?_)))
  have hzl : (z.length : Int) = wiresN c + c.Tiles.length := by rw [ez]; simp; omega
  refine ok_bs1 (R := fun s => OutP c s ∧ (s.length : Int) ≤ 2000000000) ?_ fun s hs => ok_some ⟨rfl, hs⟩
  refine ok_lp (fun s => 0 ≤ s.1 ∧ s.1 ≤ z.length ∧ (s.2.1.length : Int) ≤ s.1 * 9765625 ∧ OutP c s.2.1 ∧ Stt c s.2.2 ∧ ∀ j, inb j z.length → gt s.2.2 j ≠ 1) (fun s => ((z.length : Int) - s.1).toNat)
    ⟨by simp, by simp, by simp, fun x hx => by simp at hx, ⟨hzl, fun j hj => ?_⟩, fun j hj => ?_⟩ (by simp only; omega) ?_
  · simp only at hj ⊢
    rw [ez] at hj ⊢
    rw [gt_rep ⟨hj.1, by have := hj.2; simpa using this⟩]; exact .inl rfl
  · simp only
    rw [ez] at hj ⊢
    rw [gt_rep ⟨hj.1, by have := hj.2; simpa using this⟩]; decide
  rintro ⟨y, out, st⟩ ⟨y0, y1, o1, o2, s1, s2⟩
  simp only at y0 y1 o1 o2 s1 s2
  have hsl := s1.len
  unfold P_array_order_L7
  dsimp only
  refine ok_ite (fun hlt => ?_) fun hge => ok_some ⟨_, rfl, o2, by omega⟩
  have hy : 0 ≤ y ∧ y < wiresN c + c.Tiles.length := ⟨y0, by omega⟩
  have hr := rk_nn h hy
  unfold P_array_order_1_3
  have h5 : (5 : Int) ^ (9 + 1) = 9765625 := by decide
  refine ok_bd (visit_ok h 9 fuel y st out (by unfold fuel; omega) (by omega) hy (by omega) s1 (fun j hj e => absurd e (s2 j ⟨hj.1, by have := hj.2; omega⟩)) (by rw [h5]; omega) o2) ?_
  rintro ⟨b, st2, out2⟩ ⟨e1, e2, e3, e4, e5⟩
  simp only at e1 e2 e3 e4 e5
  subst e1
  rw [h5] at e4
  refine ok_f (by simp) (ok_ar (by omega) (ok_some ⟨⟨by simp only; omega, by simp only; omega, by simp only; omega, e5, e2, fun j hj => ?_⟩, by simp only; omega⟩))
  simp only
  intro e
  exact s2 j hj ((e3 j ⟨hj.1, by have := hj.2; omega⟩).1 e)
theorem order_ok (h : ConfOk c) : Ok (P_array_order c) (fun r => r.2 = true) := (order_val h).mono fun r hr => hr.1
theorem within_ok (n a b : Int) : Ok (P_array_within n a b) (fun r => r = (decide (a ≤ n) && decide (n ≤ b))) := by
  unfold P_array_within; exact ok_lv (ok_some rfl)
theorem within_t {n a b : Int} (h : a ≤ n ∧ n ≤ b) : Ok (P_array_within n a b) (fun r => r = true) := (within_ok n a b).mono fun r hr => by rw [hr]; simp [h]
/-- The pads of a list are valid where each is at the border, and no two are the same. -/
theorem apads_ok {ps : List T_array_Pad} (hl : ps.length ≤ 1000) (hb : ∀ i, inb i ps.length → Ok (P_array_border c (gt ps i)) (fun r => r = true)) (hd : ∀ i j, 0 ≤ i → i < j → j < (ps.length : Int) → gt ps i ≠ gt ps j) : Ok (P_array_pads c ps) (fun r => r = 0) := by
  unfold P_array_pads
  refine ok_bs1 (R := fun _ => True) ?_ fun _ _ => ok_some rfl
  refine ok_lp (fun y => 0 ≤ y ∧ y ≤ ps.length) (fun y => ((ps.length : Int) - y).toNat) ⟨by omega, by omega⟩ (by omega) ?_
  rintro y ⟨y0, y1⟩
  unfold P_array_pads_L2
  refine ok_ite (fun hlt => ok_ck ⟨y0, hlt⟩ (ok_lv (ok_bd (hb y ⟨y0, hlt⟩) ?_))) fun hge => ok_some ⟨_, rfl, trivial⟩
  rintro _ rfl
  refine ok_f (by simp) (ok_ck ⟨by omega, by omega, by omega⟩ (ok_lv' fun xs exs => ?_))
  have hxl : (xs.length : Int) = y := by rw [exs]; simp [X.sub]; omega
  have hxg : ∀ i, 0 ≤ i → i < y → gt xs i = gt ps i := by
    intro i i0 i1
    rw [exs]
    obtain ⟨k, rfl⟩ := Int.eq_ofNat_of_zero_le i0
    have h1 : k < y.toNat := by omega
    simp [gt, X.sub, List.getElem?_take, h1]
  unfold P_slices_Contains_array_Pad_array_Pad
  refine ok_bd (R := fun r => r = false) (ok_bd (Index_ok (by omega)) fun r hr => ok_some ?_) ?_
  · rcases hr with ⟨e, _⟩ | ⟨r0, r1, r2⟩
    · subst e; rfl
    · rw [hxg r r0 (by omega)] at r2
      exact absurd r2 (hd r y r0 (by omega) hlt)
  · rintro _ rfl
    exact ok_f (by simp) (ok_ar (by omega) (ok_some ⟨⟨by omega, by omega⟩, by omega⟩))
theorem border_ok (h : ConfOk c) {p : T_array_Pad} (h1 : 0 ≤ p.Row ∧ p.Row < c.Rows) (h2 : 0 ≤ p.Col ∧ p.Col < c.Cols) (h3 : 0 ≤ p.Track ∧ p.Track < c.Tracks) (hs : p.Side = 0 ∧ p.Row = 0 ∨ p.Side = 1 ∧ p.Col = c.Cols - 1 ∨ p.Side = 3 ∧ p.Col = 0) : Ok (P_array_border c p) (fun r => r = true) := by
  have a1 := h.rows
  have a2 := h.cols
  have a3 := h.tracks
  unfold P_array_border
  refine ok_ar (by omega) (ok_bd (within_t (by omega)) ?_)
  rintro _ rfl
  refine ok_ck (fun _ => by omega) (ok_lv (ok_bd (R := fun r => r = true) (ok_gd (fun _ => within_t (by omega)) fun hh => by simp at hh) ?_))
  rintro _ rfl
  refine ok_lv (ok_ck (fun _ => by omega) (ok_lv (ok_bd (R := fun r => r = true) (ok_gd (fun _ => within_t (by omega)) fun hh => by simp at hh) ?_)))
  rintro _ rfl
  refine ok_lv (ok_f (by simp) ?_)
  rcases hs with ⟨e, e2⟩ | ⟨e, e2⟩ | ⟨e, e2⟩
  · exact ok_t e (ok_some (by simp [e2]))
  · exact ok_f (by omega) (ok_t e (ok_ar (by omega) (ok_some (by simp [e2]))))
  · exact ok_f (by omega) (ok_f (by omega) (ok_f (by omega) (ok_t e (ok_some (by simp [e2])))))
theorem Check_ok (h : ConfOk c) : Ok (P_array_Check c) (fun r => r = 0) := by
  have a1 := h.rows
  have a2 := h.cols
  have a3 := h.tracks
  have hL := h.tilesL
  have hM := h.Mb
  have hb := h.wb
  have hil := h.inL
  have hol := h.outL
  unfold P_array_Check
  refine ok_bd (within_t (by omega)) ?_
  rintro _ rfl
  refine ok_bd (R := fun r => r = true) (ok_gd (fun _ => within_t (by omega)) fun hh => by simp at hh) ?_
  rintro _ rfl
  refine ok_lv (ok_bd (R := fun r => r = true) (ok_gd (fun _ => within_t (by omega)) fun hh => by simp at hh) ?_)
  rintro _ rfl
  refine ok_lv (ok_f (by simp) (ok_ar (by omega) (ok_f (by omega) (ok_bs1 (R := fun _ => True) ?_ fun _ _ => ?_))))
  · refine ok_lp (fun y => 0 ≤ y ∧ y ≤ c.Tiles.length) (fun y => ((c.Tiles.length : Int) - y).toNat) ⟨by omega, by omega⟩ (by omega) ?_
    rintro y ⟨y0, y1⟩
    unfold P_array_Check_L6
    refine ok_ite (fun hlt => ok_ck ⟨y0, hlt⟩ (ok_lv' fun t et => ?_)) fun hge => ok_some ⟨_, rfl, trivial⟩
    have ht := h.tile y ⟨y0, hlt⟩
    rw [← et] at ht
    have i0 := ht.i0
    have i1 := ht.i1
    have i2 := ht.i2
    have i3 := ht.i3
    have l0 := ht.l0
    have l1 := ht.l1
    have l2 := ht.l2
    have l3 := ht.l3
    unfold InOk at i0 i1 i2 i3
    refine ok_f (by omega) (ok_f (by omega) (ok_f (by omega) (ok_f (by omega) (ok_ar (by omega) (ok_ar (by omega) (ok_bd (within_t (by omega)) ?_))))))
    rintro _ rfl
    refine ok_f (by simp) (ok_ar (by omega) (ok_ar (by omega) (ok_bd (within_t (by omega)) ?_)))
    rintro _ rfl
    refine ok_f (by simp) (ok_ar (by omega) (ok_ar (by omega) (ok_bd (within_t (by omega)) ?_)))
    rintro _ rfl
    refine ok_f (by simp) (ok_ar (by omega) (ok_ar (by omega) (ok_bd (within_t (by omega)) ?_)))
    rintro _ rfl
    refine ok_f (by simp) (ok_bs1 (R := fun _ => True) ?_ fun _ _ => ok_bs1 (R := fun _ => True) ?_ fun _ _ => ok_bs1 (R := fun _ => True) ?_ fun _ _ => ok_bs1 (R := fun _ => True) ?_ fun _ _ => ok_ar (by omega) (ok_some ⟨⟨by omega, by omega⟩, by omega⟩))
    · refine ok_lp (fun z => 0 ≤ z ∧ z ≤ t.Out.fe0.length) (fun z => ((t.Out.fe0.length : Int) - z).toNat) ⟨by omega, by omega⟩ (by omega) ?_
      rintro z ⟨z0, z1⟩
      unfold P_array_Check_L24u4
      refine ok_ite (fun hlt => ok_ck ⟨z0, hlt⟩ (ok_lv' fun x ex => ?_)) fun hge => ok_some ⟨_, rfl, trivial⟩
      have hx := ht.o0 z ⟨z0, hlt⟩
      rw [← ex] at hx
      unfold OutNW at hx
      refine ok_bd (within_t (by omega)) ?_
      rintro _ rfl
      exact ok_lv (ok_f (by simp; omega) (ok_ar (by omega) (ok_some ⟨⟨by omega, by omega⟩, by omega⟩)))
    · refine ok_lp (fun z => 0 ≤ z ∧ z ≤ t.Out.fe1.length) (fun z => ((t.Out.fe1.length : Int) - z).toNat) ⟨by omega, by omega⟩ (by omega) ?_
      rintro z ⟨z0, z1⟩
      unfold P_array_Check_L24u3
      refine ok_ite (fun hlt => ok_ck ⟨z0, hlt⟩ (ok_lv' fun x ex => ?_)) fun hge => ok_some ⟨_, rfl, trivial⟩
      have hx := ht.o1 z ⟨z0, hlt⟩
      rw [← ex] at hx
      unfold OutES at hx
      refine ok_bd (within_t (by omega)) ?_
      rintro _ rfl
      exact ok_lv (ok_f (by simp; omega) (ok_ar (by omega) (ok_some ⟨⟨by omega, by omega⟩, by omega⟩)))
    · refine ok_lp (fun z => 0 ≤ z ∧ z ≤ t.Out.fe2.length) (fun z => ((t.Out.fe2.length : Int) - z).toNat) ⟨by omega, by omega⟩ (by omega) ?_
      rintro z ⟨z0, z1⟩
      unfold P_array_Check_L24u2
      refine ok_ite (fun hlt => ok_ck ⟨z0, hlt⟩ (ok_lv' fun x ex => ?_)) fun hge => ok_some ⟨_, rfl, trivial⟩
      have hx := ht.o2 z ⟨z0, hlt⟩
      rw [← ex] at hx
      unfold OutES at hx
      refine ok_bd (within_t (by omega)) ?_
      rintro _ rfl
      exact ok_lv (ok_f (by simp; omega) (ok_ar (by omega) (ok_some ⟨⟨by omega, by omega⟩, by omega⟩)))
    · refine ok_lp (fun z => 0 ≤ z ∧ z ≤ t.Out.fe3.length) (fun z => ((t.Out.fe3.length : Int) - z).toNat) ⟨by omega, by omega⟩ (by omega) ?_
      rintro z ⟨z0, z1⟩
      unfold P_array_Check_L24u1
      refine ok_ite (fun hlt => ok_ck ⟨z0, hlt⟩ (ok_lv' fun x ex => ?_)) fun hge => ok_some ⟨_, rfl, trivial⟩
      have hx := ht.o3 z ⟨z0, hlt⟩
      rw [← ex] at hx
      unfold OutNW at hx
      refine ok_bd (within_t (by omega)) ?_
      rintro _ rfl
      exact ok_lv (ok_f (by simp; omega) (ok_ar (by omega) (ok_some ⟨⟨by omega, by omega⟩, by omega⟩)))
  refine ok_lv (ok_f (by simp; omega) (ok_bd (apads_ok (by omega) (fun i hi => ?_) fun i j i0 ij jl e => ?_) ?_))
  · have hp := h.in_ i hi
    dsimp only at hp
    split at hp
    · obtain ⟨p1, p2, p3, p4⟩ := hp
      have := hi.1
      exact border_ok h p1 (by omega) (by omega) (.inr (.inr ⟨p3, p2⟩))
    · obtain ⟨p1, p2, p3, p4, p5⟩ := hp
      exact border_ok h (by omega) p2 ⟨p4, p5⟩ (.inl ⟨p3, p1⟩)
  · have p1 := h.in_ i ⟨i0, by omega⟩
    have p2 := h.in_ j ⟨by omega, jl⟩
    dsimp only at p1 p2
    rw [if_pos (by omega)] at p1
    rw [e] at p1
    split at p2
    · omega
    · omega
  rintro _ rfl
  refine ok_f (by simp) (ok_bd (apads_ok (by omega) (fun i hi => ?_) fun i j i0 ij jl e => ?_) ?_)
  · obtain ⟨p1, p2, p3, p4⟩ := h.out i hi
    have h5 := hi.1
    have h6 := hi.2
    exact border_ok h p1 (by omega) (by omega) (.inr (.inl ⟨p3, p2⟩))
  · have p1 := (h.out i ⟨i0, by omega⟩).2.2.2
    have p2 := (h.out j ⟨by omega, jl⟩).2.2.2
    rw [e] at p1
    omega
  rintro _ rfl
  refine ok_f (by simp) (ok_bd (order_ok h) ?_)
  rintro ⟨l, b⟩ rfl
  exact ok_f (by simp) (ok_some rfl)
end
end Go.Proofs.Ytnooiajahmichaa.X
