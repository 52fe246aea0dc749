/- The layouts that are drawn, and rules.Check of layouts. Plain. -/
import Derived.Test.YtnnmbmgnpdcefaaUF
import Derived.Test.YtnnmbmgnpdcefaaPA
import Derived.Test.YtnnmbmgnpdcefaaYQ
namespace Go.Proofs.Ytnnmbmgnpdcefaa.X
open Go Go.RowKit
set_option linter.unusedVariables false
set_option linter.unusedSimpArgs false
set_option linter.unusedSectionVars false
theorem within_ok {n a b : Int} (h : a ≤ n ∧ n ≤ b) : Ok (P_rules_within n a b) (fun r => r = true) := by
  unfold P_rules_within
  exact ok_lv (ok_some (by simp [h.1, h.2]))
theorem ok_wi {β : Type} {n a b : Int} {k : Bool → Option β} {Q : β → Prop} (h : a ≤ n ∧ n ≤ b) (hk : Ok (k true) Q) : Ok (bd (P_rules_within n a b) k) Q := ok_bd (within_ok h) (by rintro _ rfl; exact hk)
theorem ok_gw {β : Type} {n a b : Int} {q : Bool} {k : Bool → Option β} {Q : β → Prop} (hq : q = true) (h : a ≤ n ∧ n ≤ b) (hk : Ok (k true) Q) : Ok (bd (gd q (P_rules_within n a b)) k) Q := by
  subst hq
  exact ok_bd (within_ok h) (by rintro _ rfl; exact hk)
theorem checkWire_ok {l : T_rules_Layout} (hl : LayN l) {w : T_rules_Wire} (h : WireN w) : Ok (P_rules_checkWire l w) (fun r => r = 0) := by
  have a := hl.size
  have e := h.n
  have f := h.l
  have g := h.x
  have i := h.y
  unfold P_rules_checkWire
  refine ok_ar (by omega) (ok_wi ⟨by omega, by omega⟩ (ok_f (by simp) (ok_ar (by omega) (ok_wi ⟨by omega, by omega⟩ (ok_ck (fun _ => by omega) (ok_lv (ok_gw rfl ⟨by omega, by omega⟩ (ok_lv (ok_ck (fun _ => by omega) (ok_lv (ok_gw rfl ⟨by omega, by omega⟩ (ok_lv (ok_ck (fun _ => by omega) (ok_lv (ok_gw rfl ⟨by omega, by omega⟩ (ok_lv (ok_ck (fun _ => by omega) (ok_lv (ok_gw rfl ⟨by omega, by omega⟩ (ok_lv (ok_f (by simp) ?_)))))))))))))))))))))
  refine ok_ck (by omega) (ok_lv (ok_lv (ok_ck (fun _ => by omega) (ok_lv (ok_lv (ok_lv (ok_f ?_ (ok_some rfl))))))))
  have h1 : Int.tmod w.Layer 2 = 0 → w.Y0 = w.Y1 := fun q => h.ev (by
    have : w.Layer = 0 ∨ w.Layer = 1 ∨ w.Layer = 2 := by omega
    rcases this with p | p | p
    · exact .inl p
    · rw [p] at q; exact absurd q (by decide)
    · exact .inr p)
  have h2 : Int.tmod w.Layer 2 = 1 → w.X0 = w.X1 := fun q => h.od (by
    have : w.Layer = 0 ∨ w.Layer = 1 ∨ w.Layer = 2 := by omega
    rcases this with p | p | p
    · rw [p] at q; exact absurd q (by decide)
    · exact p
    · rw [p] at q; exact absurd q (by decide))
  simp only [Bool.or_eq_true, Bool.and_eq_true, decide_eq_true_eq]
  rintro (⟨q1, q2⟩ | ⟨q1, q2⟩)
  · exact q2 (h1 q1)
  · exact q2 (h2 q1)
theorem RCheck_ok {l : T_rules_Layout} (hl : LayN l) : Ok (P_rules_Check l) (fun r => r = 0) := by
  have a := hl.size
  have e1 := hl.wires.1
  have e2 := hl.vias.1
  have e3 := hl.pins.1
  have e4 : l.Walls.length = 0 := by rw [hl.walls]; rfl
  unfold P_rules_Check
  refine ok_wi ⟨by omega, by omega⟩ (ok_gw rfl ⟨by omega, by omega⟩ (ok_lv (ok_gw rfl ⟨by omega, by omega⟩ (ok_lv (ok_gw rfl ⟨by omega, by omega⟩ (ok_lv (ok_f (by simp) (ok_lv (ok_lv (ok_lv (ok_f (by simp only [Bool.or_eq_true, decide_eq_true_eq]; omega) ?_)))))))))))
  refine ok_bs1 (R := fun r => r ≤ 1000) ?_ fun pts hpts => ok_bs1 (R := fun _ => True) ?_ fun _ _ => ok_bs1 (R := fun _ => True) ?_ fun _ _ => ok_bs1 (R := fun _ => True) ?_ fun _ _ => ok_f (by omega) (ok_some rfl)
  · refine ok_lp (fun s => (0 ≤ s.2 ∧ s.2 ≤ l.Wires.length) ∧ 0 ≤ s.1 ∧ s.1 ≤ 30 * s.2) (fun s => ((l.Wires.length : Int) - s.2).toNat) ⟨⟨by simp, by simp only; omega⟩, by simp, by simp⟩ (by simp only; omega) ?_
    rintro ⟨p, y⟩ ⟨⟨y0, y1⟩, y2, y3⟩
    simp only at y0 y1 y2 y3
    unfold P_rules_Check_L7
    dsimp only
    refine ok_ite (fun hlt => ?_) fun hge => ok_some ⟨_, rfl, by omega⟩
    have hw := hl.wires.2 _ (gt_mem ⟨y0, hlt⟩)
    have g := hw.x
    have i := hw.y
    refine ok_ck ⟨y0, hlt⟩ (ok_lv (ok_bd (checkWire_ok hl hw) ?_))
    rintro _ rfl
    exact ok_f (by simp) (ok_ar (by omega) (ok_ar (by omega) (ok_ar (by omega) (ok_ar (by omega) (ok_ar (by omega) (ok_ar (by omega) (ok_some ⟨⟨⟨by simp only; omega, by simp only; omega⟩, by simp only; omega, by simp only; omega⟩, by simp only; omega⟩)))))))
  · refine ok_lp (fun y => 0 ≤ y ∧ y ≤ l.Vias.length) (fun y => ((l.Vias.length : Int) - y).toNat) ⟨by omega, by omega⟩ (by omega) ?_
    rintro y ⟨y0, y1⟩
    unfold P_rules_Check_L15
    refine ok_ite (fun hlt => ?_) fun hge => ok_some ⟨(), rfl, trivial⟩
    have hw := hl.vias.2 _ (gt_mem ⟨y0, hlt⟩)
    have e := hw.n
    have f := hw.l
    have g := hw.x
    have i := hw.y
    exact ok_ck ⟨y0, hlt⟩ (ok_lv (ok_ar (by omega) (ok_wi ⟨by omega, by omega⟩ (ok_f (by simp) (ok_ar (by omega) (ok_wi ⟨by omega, by omega⟩ (ok_ck (fun _ => by omega) (ok_lv (ok_gw rfl ⟨by omega, by omega⟩ (ok_lv (ok_ck (fun _ => by omega) (ok_lv (ok_gw rfl ⟨by omega, by omega⟩ (ok_lv (ok_f (by simp) (ok_ar (by omega) (ok_some ⟨⟨by omega, by omega⟩, by omega⟩)))))))))))))))))
  · refine ok_lp (fun y => 0 ≤ y ∧ y ≤ l.Pins.length) (fun y => ((l.Pins.length : Int) - y).toNat) ⟨by omega, by omega⟩ (by omega) ?_
    rintro y ⟨y0, y1⟩
    unfold P_rules_Check_L23
    refine ok_ite (fun hlt => ?_) fun hge => ok_some ⟨(), rfl, trivial⟩
    obtain ⟨e, g, i, f, hdr⟩ := hl.pins.2 _ (gt_mem ⟨y0, hlt⟩)
    refine ok_ck ⟨y0, hlt⟩ (ok_lv (ok_ar (by omega) (ok_wi ⟨by omega, by omega⟩ (ok_f (by simp) (ok_ar (by omega) (ok_wi ⟨by omega, by omega⟩ (ok_ck (fun _ => by omega) (ok_lv (ok_gw rfl ⟨by omega, by omega⟩ (ok_lv (ok_gw rfl ⟨by omega, by omega⟩ (ok_lv (ok_lv (ok_lv (ok_f ?_ (ok_ar (by omega) (ok_some ⟨⟨by omega, by omega⟩, by omega⟩)))))))))))))))))
    simp only [Bool.not_true, Bool.or_self, Bool.false_or, Bool.and_eq_true, decide_eq_true_eq]
    rintro ⟨q1, q2⟩
    have := hdr q1
    omega
  · refine ok_lp (fun y => 0 ≤ y ∧ y ≤ l.Walls.length) (fun y => ((l.Walls.length : Int) - y).toNat) ⟨by omega, by omega⟩ (by omega) ?_
    rintro y ⟨y0, y1⟩
    unfold P_rules_Check_L31
    refine ok_ite (fun hlt => ?_) fun hge => ok_some ⟨(), rfl, trivial⟩
    omega
theorem echeck_ok {l : T_rules_Layout} (hl : LayN l) {net : Int} (h : 0 ≤ net ∧ net ≤ 2) : Ok (P_extract_check l net) (fun r => r = 0) := by
  have a := hl.size
  unfold P_extract_check
  refine ok_bd (RCheck_ok hl) ?_
  rintro _ rfl
  exact ok_f (by simp) (ok_lv (ok_f (by simp only [Bool.or_eq_true, decide_eq_true_eq]; omega) (ok_some rfl)))
theorem all_snoc {β : Type} {p : β → Prop} {l : List β} {a : β} (h : ∀ x ∈ l, p x) (ha : p a) : ∀ x ∈ l ++ [a], p x := fun x hx => by
  rcases List.mem_append.1 hx with h1 | h1
  · exact h x h1
  · rw [List.mem_singleton.1 h1]; exact ha
def PinN (p : T_rules_Pin) : Prop := (0 ≤ p.Net ∧ p.Net ≤ 2) ∧ (0 ≤ p.X ∧ p.X ≤ 11) ∧ (0 ≤ p.Y ∧ p.Y ≤ 11) ∧ (0 ≤ p.Size ∧ p.Size ≤ 5) ∧ (p.Drive = true → p.Size = 0)
theorem swire_ok {L : List Int} (hL : Strm L) {k : Int} (hk : Few (k + 10)) (hk0 : 0 ≤ k) {ws : List T_rules_Wire} {vs : List T_rules_Via} {ps : List T_rules_Pin} :
    Ok (P_maskmake_Stream_wire (T_maskmake_Stream.mk L k) (T_rules_Layout.mk 12 12 3 3 ws vs ps [])) (fun r => WireN r.1 ∧ r.2 = k + 5) := by
  unfold P_maskmake_Stream_wire
  dsimp only
  refine ok_bd (hL.next (by omega) (by omega)) ?_
  rintro ⟨a, k1⟩ ⟨a0, a1, -, rfl⟩
  have a1 := a1 (by omega)
  refine ok_bd (hL.next (by simp only; omega) (by omega)) ?_
  rintro ⟨b, k2⟩ ⟨b0, b1, -, rfl⟩
  have b1 := b1 (by omega)
  refine ok_bd (hL.next (by simp only; omega) (by omega)) ?_
  rintro ⟨c, k3⟩ ⟨c0, c1, -, rfl⟩
  have c1 := c1 (by omega)
  refine ok_bd (hL.next (by simp only; omega) (by omega)) ?_
  rintro ⟨d, k4⟩ ⟨d0, d1, -, rfl⟩
  have d1 := d1 (by omega)
  simp only at a0 a1 b0 b1 c0 c1 d0 d1
  have hb : b = 0 ∨ b = 1 ∨ b = 2 := by omega
  refine ok_ck (by omega) (ok_lv ?_)
  by_cases e : Int.tmod b 2 = 0
  · have hb1 : b ≠ 1 := fun q => by rw [q] at e; exact absurd e (by decide)
    refine ok_bd (R := fun r => (c ≤ r.1 ∧ r.1 ≤ 11) ∧ r.2.1 = d ∧ r.2.2 = k + 5) (ok_t e (ok_ar (by omega) (ok_bd (hL.range (by simp only; omega) (by simp only; omega) (by omega) (by simp only; omega)) ?_))) ?_
    · rintro ⟨x, k5⟩ ⟨x0, x1, rfl⟩
      simp only at x0 x1
      exact ok_some ⟨by simp only; omega, rfl, by simp only; omega⟩
    · rintro ⟨x, y, k5⟩ ⟨h1, h2, h3⟩
      simp only at h1 h2 h3
      subst h2
      exact ok_some ⟨⟨⟨c0, h1.1, h1.2⟩, ⟨d0, Int.le_refl _, by simp only; omega⟩, by simp only; omega, by simp only; omega, fun _ => rfl, fun q => absurd q hb1⟩, h3⟩
  · have hb1 : b = 1 := by
      rcases hb with q | q | q
      · rw [q] at e; exact absurd (by decide) e
      · exact q
      · rw [q] at e; exact absurd (by decide) e
    refine ok_bd (R := fun r => r.1 = c ∧ (d ≤ r.2.1 ∧ r.2.1 ≤ 11) ∧ r.2.2 = k + 5) (ok_f e (ok_ar (by omega) (ok_bd (hL.range (by simp only; omega) (by simp only; omega) (by omega) (by simp only; omega)) ?_))) ?_
    · rintro ⟨x, k5⟩ ⟨x0, x1, rfl⟩
      simp only at x0 x1
      exact ok_some ⟨rfl, by simp only; omega, by simp only; omega⟩
    · rintro ⟨x, y, k5⟩ ⟨h1, h2, h3⟩
      simp only at h1 h2 h3
      subst h1
      exact ok_some ⟨⟨⟨c0, Int.le_refl _, by simp only; omega⟩, ⟨d0, h2.1, h2.2⟩, by simp only; omega, by simp only; omega, fun q => by simp only at q; omega, fun _ => rfl⟩, h3⟩
/-- What Tied draws. -/
structure TiedN (l : T_rules_Layout) : Prop where
  size : l.W = 12 ∧ l.H = 12 ∧ l.Layers = 3 ∧ l.Nets = 3
  wires : (1 ≤ l.Wires.length ∧ l.Wires.length ≤ 8) ∧ ∀ w ∈ l.Wires, WireN w
  vias : l.Vias.length ≤ 4 ∧ ∀ v ∈ l.Vias, ViaN v
  pins : l.Pins.length ≤ 4 ∧ ∀ p ∈ l.Pins, PinN p
  walls : l.Walls = []
theorem Tied_ok {L : List Int} (hL : Strm L) {k : Int} (hk : Few (k + 5000)) (hk0 : 0 ≤ k) : Ok (P_maskmake_Stream_Tied (T_maskmake_Stream.mk L k)) (fun r => TiedN r.1 ∧ k ≤ r.2 ∧ r.2 ≤ k + 500) := by
  unfold P_maskmake_Stream_Tied
  refine ok_bd (hL.range (by omega) (by omega) (by omega) (by omega)) ?_
  rintro ⟨y, k1⟩ ⟨y0, y1, rfl⟩
  refine ok_bd (hL.next (by simp only; omega) (by omega)) ?_
  rintro ⟨x, k2⟩ ⟨x0, x1, -, rfl⟩
  have x1 := x1 (by omega)
  refine ok_bd (hL.range (by simp only; omega) (by omega) (by omega) (by omega)) ?_
  rintro ⟨z, k3⟩ ⟨z0, z1, rfl⟩
  simp only at y0 y1 x0 x1 z0 z1
  have w1 : WireN (T_rules_Wire.mk 0 0 x y z y) := ⟨by simp only; omega, by simp only; omega, by simp only; omega, by simp only; omega, fun _ => rfl, fun q => by simp only at q; omega⟩
  refine ok_lv (ok_ck (by simp [apOk]) (ok_bd (hL.range (by simp only; omega) (by simp only; omega) (by simp only; omega) (by simp only; omega)) ?_))
  rintro ⟨p, k4⟩ ⟨p0, p1, rfl⟩
  simp only at p0 p1
  have pn1 : PinN (T_rules_Pin.mk 0 p y true 0) := ⟨by simp only; omega, by simp only; omega, by simp only; omega, by simp only; omega, fun _ => rfl⟩
  refine ok_lv (ok_ck (by simp [apOk]) (ok_bd (hL.next (by simp only; omega) (by omega)) ?_))
  rintro ⟨m, k5⟩ ⟨m0, m1, -, rfl⟩
  have m1 := m1 (by omega)
  simp only at m0 m1
  refine ok_bd (R := fun s => (k ≤ s.1 ∧ s.1 ≤ k + 50) ∧ ((1 ≤ s.2.1.length ∧ s.2.1.length ≤ 3) ∧ ∀ w ∈ s.2.1, WireN w) ∧ (s.2.2.1.length ≤ 4 ∧ ∀ v ∈ s.2.2.1, ViaN v) ∧ (s.2.2.2.length ≤ 3 ∧ ∀ p ∈ s.2.2.2, PinN p)) ?_ ?_
  · refine ok_lp (fun s => (0 ≤ s.1 ∧ s.1 ≤ m) ∧ (k ≤ s.2.1 ∧ s.2.1 ≤ k + 6 + 5 * s.1) ∧ ((s.2.2.1.length : Int) = 1 + s.1 ∧ ∀ w ∈ s.2.2.1, WireN w) ∧ ((s.2.2.2.1.length : Int) ≤ 2 * s.1 ∧ ∀ v ∈ s.2.2.2.1, ViaN v) ∧ ((s.2.2.2.2.length : Int) ≤ 1 + s.1 ∧ ∀ p ∈ s.2.2.2.2, PinN p)) (fun s => (m - s.1).toNat)
      ⟨by simp only; omega, by simp only; omega, ⟨by simp, fun w hw => by rw [List.mem_singleton.1 hw]; exact w1⟩, ⟨by simp, fun v hv => by simp at hv⟩, ⟨by simp, fun q hq => by rw [List.mem_singleton.1 hq]; exact pn1⟩⟩ (by simp only; omega) ?_
    rintro ⟨i, kk, ws, vs, ps⟩ ⟨i1, kk1, hws, hvs, hps⟩
    simp only at i1 kk1 hws hvs hps ⊢
    unfold P_maskmake_Stream_Tied_L7
    dsimp only
    refine ok_ite (fun hlt => ?_) fun hge => ok_some ⟨by simp only; omega, ⟨by simp only; omega, hws.2⟩, ⟨by simp only; omega, hvs.2⟩, ⟨by simp only; omega, hps.2⟩⟩
    refine ok_ar (by omega) (ok_ar (by omega) (ok_ar (by omega) (ok_bd (hL.next (by omega) (by omega)) ?_)))
    rintro ⟨t, kt⟩ ⟨t0, t1, -, rfl⟩
    have t1 := t1 (by omega)
    simp only at t0 t1 ⊢
    have w2 : WireN (T_rules_Wire.mk 0 1 (x + 1 + 2 * i) (min y t) (x + 1 + 2 * i) (max y t)) := ⟨by simp only; omega, by simp only; omega, by simp only; omega, by simp only; omega, fun q => by simp only at q; omega, fun _ => rfl⟩
    have v2 : ViaN (T_rules_Via.mk 0 0 (x + 1 + 2 * i) y) := ⟨by simp only; omega, by simp only; omega, by simp only; omega, by simp only; omega⟩
    have v3 : ViaN (T_rules_Via.mk 0 0 (x + 1 + 2 * i) t) := ⟨by simp only; omega, by simp only; omega, by simp only; omega, by simp only; omega⟩
    refine ok_lv (ok_ck (by simp only [apOk, List.length_append, List.length_singleton]; omega) (ok_lv (ok_lv (ok_lv (ok_ck (by simp only [apOk, List.length_append, List.length_singleton]; omega) ?_)))))
    refine ok_bd (R := fun s => kk + 1 ≤ s.2 ∧ s.2 ≤ kk + 2) (ok_ite (fun h => ok_bd (hL.flip (by omega) (by omega)) ?_) fun h => ok_some (by simp only; omega)) ?_
    · rintro ⟨b, kb⟩ hb
      simp only at hb
      exact ok_some (by simp only; omega)
    rintro ⟨b, kb⟩ hb
    simp only at hb ⊢
    refine ok_bd (R := fun s => (kb ≤ s.1 ∧ s.1 ≤ kb + 1) ∧ ((s.2.1.length : Int) ≤ 2 * i + 2 ∧ ∀ v ∈ s.2.1, ViaN v) ∧ ((s.2.2.length : Int) ≤ 2 + i ∧ ∀ p ∈ s.2.2, PinN p)) (ok_ite (fun h => ok_lv (ok_ck (by simp only [apOk, List.length_append, List.length_singleton]; omega) (ok_bd (hL.next (by omega) (by omega)) ?_))) fun h => ok_some ⟨by simp only; omega, ⟨by simp only [List.length_append, List.length_singleton]; omega, all_snoc hvs.2 v2⟩, ⟨by simp only; omega, hps.2⟩⟩) ?_
    · rintro ⟨c, kc⟩ ⟨c0, c1, -, rfl⟩
      have c1 := c1 (by omega)
      simp only at c0 c1 ⊢
      have p2 : PinN (T_rules_Pin.mk 0 (x + 1 + 2 * i) t false c) := ⟨by simp only; omega, by simp only; omega, by simp only; omega, by simp only; omega, fun q => by cases q⟩
      exact ok_lv (ok_ck (by simp only [apOk, List.length_append, List.length_singleton]; omega) (ok_some ⟨by simp only; omega, ⟨by simp only [List.length_append, List.length_singleton]; omega, all_snoc (all_snoc hvs.2 v2) v3⟩, ⟨by simp only [List.length_append, List.length_singleton]; omega, all_snoc hps.2 p2⟩⟩))
    rintro ⟨kc, vs', ps'⟩ ⟨h1, h2, h3⟩
    simp only at h1 h2 h3 ⊢
    exact ok_ar (by omega) (ok_some ⟨⟨by simp only; omega, by simp only; omega, ⟨by simp only [List.length_append, List.length_singleton]; omega, all_snoc hws.2 w2⟩, ⟨by simp only; omega, h2.2⟩, ⟨by simp only; omega, h3.2⟩⟩, by simp only; omega⟩)
  rintro ⟨kk, ws, vs, ps⟩ ⟨kk1, hws, hvs, hps⟩
  simp only at kk1 hws hvs hps ⊢
  refine ok_bd (hL.next (by omega) (by omega)) ?_
  rintro ⟨c, kc⟩ ⟨c0, c1, -, rfl⟩
  have c1 := c1 (by omega)
  simp only at c0 c1 ⊢
  have p3 : PinN (T_rules_Pin.mk 0 x y false c) := ⟨by simp only; omega, by simp only; omega, by simp only; omega, by simp only; omega, fun q => by cases q⟩
  refine ok_lv (ok_ck (by simp only [apOk, List.length_append, List.length_singleton]; omega) (ok_bd (hL.next (by omega) (by omega)) ?_))
  rintro ⟨q, kq⟩ ⟨q0, q1, -, rfl⟩
  have q1 := q1 (by omega)
  simp only at q0 q1 ⊢
  refine ok_bd (R := fun s => ((1 ≤ s.1.length ∧ s.1.length ≤ 8) ∧ ∀ w ∈ s.1, WireN w) ∧ k ≤ s.2 ∧ s.2 ≤ k + 200) ?_ ?_
  · refine ok_lp (fun s => (0 ≤ s.1 ∧ s.1 ≤ q) ∧ (k ≤ s.2.1 ∧ s.2.1 ≤ k + 60 + 5 * s.1) ∧ (1 ≤ s.2.2.length ∧ (s.2.2.length : Int) ≤ 3 + s.1) ∧ ∀ w ∈ s.2.2, WireN w) (fun s => (q - s.1).toNat)
      ⟨by simp only; omega, by simp only; omega, by simp only; omega, hws.2⟩ (by simp only; omega) ?_
    rintro ⟨i, ki, ws'⟩ ⟨i1, ki1, hl1, hw1⟩
    simp only at i1 ki1 hl1 hw1 ⊢
    unfold P_maskmake_Stream_Tied_L19
    dsimp only
    refine ok_ite (fun hlt => ?_) fun hge => ok_some ⟨⟨by simp only; omega, hw1⟩, by simp only; omega⟩
    refine ok_bd (swire_ok hL (by omega) (by omega)) ?_
    rintro ⟨w, kw⟩ ⟨hw, rfl⟩
    simp only at hw ⊢
    refine ok_bd (R := fun s => (1 ≤ s.length ∧ (s.length : Int) ≤ 4 + i) ∧ ∀ w ∈ s, WireN w) (ok_ite (fun h => ok_lv (ok_ck (by simp only [apOk, List.length_append, List.length_singleton]; omega) (ok_some ⟨by simp only [List.length_append, List.length_singleton]; omega, all_snoc hw1 hw⟩))) fun h => ok_some ⟨by omega, hw1⟩) fun s hs => ok_ar (by omega) (ok_some ⟨⟨by simp only; omega, by simp only; omega, by simp only; omega, hs.2⟩, by simp only; omega⟩)
  rintro ⟨ws', ke⟩ ⟨h1, h2⟩
  simp only at h1 h2 ⊢
  exact ok_some ⟨⟨⟨rfl, rfl, rfl, rfl⟩, h1, hvs, ⟨by simp only [List.length_append, List.length_singleton]; omega, all_snoc hps.2 p3⟩, rfl⟩, by simp only; omega⟩
end Go.Proofs.Ytnnmbmgnpdcefaa.X
