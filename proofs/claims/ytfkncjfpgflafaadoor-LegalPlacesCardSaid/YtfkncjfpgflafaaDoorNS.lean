/- legal.Place; the law LegalPlaces. Plain. -/
import Derived.Test.YtfkncjfpgflafaaDoorNR
import Derived.Test.YtfkncjfpgflafaaDoorNC
namespace Go.Proofs.YtfkncjfpgflafaaDoor.X
open Go Go.RowKit
set_option linter.unusedVariables false
set_option linter.unusedSimpArgs false
theorem Place_ok {f : T_floor_Floor} (hf : FlN f) (hp : f.Ports = []) {n : Nat} {want : List T_floor_Point} {area : List Int} (hw : Wants n want area) :
    Ok (P_legal_Place want area f) (fun r => (r.2 = 0 ∧ Ok (P_legal_Check f area r.1) (fun e => e = 0)) ∨ (r.2 = 14 ∧ r.1 = [] ∧ ∃ c : Int, 0 ≤ c ∧ c < n ∧ wds f f.Rows.toNat < isum area + nsp f f.Rows.toNat * (gt area c - 1))) := by
  have lw := hw.lw
  have la := hw.la
  have nf := hw.few
  unfold P_legal_Place
  refine ok_bd (FCheck0 hf hp) ?_
  rintro _ rfl
  refine ok_f (by simp) (ok_f (by omega) (ok_f (by omega) ?_))
  refine ok_bs1 (R := fun _ => True) ?_ fun _ _ => ?_
  · refine ok_lp (fun y => 0 ≤ y ∧ y ≤ n) (fun y => ((n : Int) - y).toNat) ⟨by omega, by omega⟩ (by omega) ?_
    rintro y ⟨y0, y1⟩
    unfold P_legal_Place_L9
    refine ok_ite (fun hlt => ?_) fun hge => ok_some ⟨(), rfl, trivial⟩
    have p := hw.pt y y0 (by omega)
    have a := hw.ar y y0 (by omega)
    have i1 : inb y want.length := ⟨y0, hlt⟩
    have i2 : inb y area.length := ⟨y0, by omega⟩
    refine ok_ck i1 (ok_lv (ok_ck i2 (ok_lv (ok_ck (fun _ => i2) (ok_lv (ok_lv (ok_lv (ok_lv (ok_lv (ok_lv (ok_f ?_ ?_)))))))))))
    · simp only [Bool.or_eq_true, decide_eq_true_eq]; omega
    · exact ok_ar (by omega) (ok_some ⟨⟨by omega, by omega⟩, by omega⟩)
  refine ok_bd (near_ok hf hp hw) fun r hr => ?_
  refine ok_ite (fun h => ok_some (Or.inl ⟨rfl, ?_⟩)) fun h => ?_
  · obtain ⟨ord, free, ho, lo, hc⟩ := hr h
    exact hc.check hf hp la nf ho lo
  refine ok_bd (tight_ok hf hp la nf hw.ar) fun q hq => ?_
  refine ok_ite (fun h => ok_some (Or.inl ⟨rfl, ?_⟩)) fun h => ok_some (Or.inr ⟨rfl, rfl, ?_⟩)
  · obtain ⟨ord, free, ho, lo, hc⟩ := hq.1 h
    exact hc.check hf hp la nf ho lo
  · exact (hq.2 (Bool.eq_false_iff.2 h)).2
/-- What the law has drawn. -/
structure Drawn (want : List T_floor_Point) (area : List Int) (sum most y : Int) : Prop where
  lw : (want.length : Int) = y
  la : (area.length : Int) = y
  pt : ∀ i : Int, 0 ≤ i → i < y → (-10 ≤ (gt want i).X ∧ (gt want i).X ≤ 60) ∧ (-10 ≤ (gt want i).Y ∧ (gt want i).Y ≤ 60)
  ar : ∀ i : Int, 0 ≤ i → i < y → 1 ≤ gt area i ∧ gt area i ≤ 3
  sm : sum = isum area
  s0 : 0 ≤ sum ∧ sum ≤ 3 * y
  m0 : 1 ≤ most ∧ most ≤ 3
  mo : ∀ i : Int, 0 ≤ i → i < y → gt area i ≤ most
theorem Drawn.nil : Drawn [] [] 0 1 0 := ⟨rfl, rfl, fun i i0 i1 => by omega, fun i i0 i1 => by omega, rfl, by omega, by omega, fun i i0 i1 => by omega⟩
theorem Drawn.step {want : List T_floor_Point} {area : List Int} {sum most y : Int} (h : Drawn want area sum most y) {p : T_floor_Point} {a : Int} (hx : -10 ≤ p.X ∧ p.X ≤ 60) (hy : -10 ≤ p.Y ∧ p.Y ≤ 60) (ha : 1 ≤ a ∧ a ≤ 3) : Drawn (want ++ [p]) (area ++ [a]) (sum + a) (max most a) (y + 1) := by
  have lw := h.lw; have la := h.la; have s0 := h.s0; have m0 := h.m0
  have e1 : ∀ i : Int, 0 ≤ i → i < y → gt (want ++ [p]) i = gt want i := fun i i0 i1 => gt_app_l (by omega)
  have e2 : ∀ i : Int, i = y → gt (want ++ [p]) i = p := fun i e => gt_app_1 (by omega)
  have e3 : ∀ i : Int, 0 ≤ i → i < y → gt (area ++ [a]) i = gt area i := fun i i0 i1 => gt_app_l (by omega)
  have e4 : ∀ i : Int, i = y → gt (area ++ [a]) i = a := fun i e => gt_app_1 (by omega)
  refine ⟨by simp only [List.length_append, List.length_singleton]; omega, by simp only [List.length_append, List.length_singleton]; omega, fun i i0 i1 => ?_, fun i i0 i1 => ?_, by rw [isum_app, h.sm], by omega, by omega, fun i i0 i1 => ?_⟩
  · by_cases q : i = y
    · rw [e2 i q]; exact ⟨hx, hy⟩
    · rw [e1 i i0 (by omega)]; exact h.pt i i0 (by omega)
  · by_cases q : i = y
    · rw [e4 i q]; exact ha
    · rw [e3 i i0 (by omega)]; exact h.ar i i0 (by omega)
  · by_cases q : i = y
    · rw [e4 i q]; omega
    · rw [e3 i i0 (by omega)]; have := h.mo i i0 (by omega); omega
theorem drawn_ok {L : List Int} (hL : Strm L) {m k : Int} {z : Int × Int} (hz : z.1 = m) (m0 : 0 ≤ m) (m1 : m < 30) (k0 : 0 ≤ k) (k1 : k ≤ 1000) :
    Ok (lp (P_maskkeep4_LegalPlaces_L8 L z) fuel ([], [], 0, 1, 0, k)) (fun s => Drawn s.1 s.2.1 s.2.2.1 s.2.2.2 m) := by
  refine ok_lp (fun s => 0 ≤ s.2.2.2.2.1 ∧ s.2.2.2.2.1 ≤ m ∧ (0 ≤ s.2.2.2.2.2 ∧ s.2.2.2.2.2 ≤ 1000 + 3 * s.2.2.2.2.1) ∧ Drawn s.1 s.2.1 s.2.2.1 s.2.2.2.1 s.2.2.2.2.1) (fun s => (m - s.2.2.2.2.1).toNat)
    ⟨by simp, by simp only; omega, by simp only; omega, Drawn.nil⟩ (by simp only; omega) ?_
  rintro ⟨want, area, sum, most, y, k⟩ ⟨y0, y1, kk, h⟩
  simp only at y0 y1 kk h ⊢
  unfold P_maskkeep4_LegalPlaces_L8
  dsimp only
  rw [hz]
  refine ok_ite (fun hlt => ?_) fun hge => ok_some (by simp only; rw [show m = y by omega]; exact h)
  have lw := h.lw; have la := h.la
  refine ok_bd (hL.range (by omega) (by omega) (by omega) (by omega)) ?_
  rintro ⟨px, k2⟩ ⟨x0, x1, e2⟩
  simp only at x0 x1 e2 ⊢
  refine ok_bd (hL.range (by omega) (by omega) (by omega) (by omega)) ?_
  rintro ⟨py, k3⟩ ⟨z0, z1, e3⟩
  simp only at z0 z1 e3 ⊢
  refine ok_lv (ok_ck (by simp only [apOk, List.length_append, List.length_singleton]; omega) ?_)
  refine ok_bd (hL.range (by omega) (by omega) (by omega) (by omega)) ?_
  rintro ⟨a, k4⟩ ⟨a0, a1, e4⟩
  simp only at a0 a1 e4 ⊢
  have hs := h.step (p := ⟨px, py⟩) (a := a) (by simp only; omega) (by simp only; omega) ⟨a0, a1⟩
  have s0 := hs.s0
  have eg : ∀ i : Int, i = area.length → gt (area ++ [a]) i = a := fun i e => gt_app_1 e
  refine ok_lv (ok_ck (by simp only [apOk, List.length_append, List.length_singleton]; omega) ?_)
  have ll : (((area ++ [a]).length : Nat) : Int) = y + 1 := hs.la
  generalize area ++ [a] = ar' at hs eg ll ⊢
  refine ok_ar (by omega) (ok_ck ⟨by omega, by omega⟩ (ok_lv ?_))
  rw [eg _ (by omega)]
  refine ok_ar (by omega) (ok_ar (by omega) (ok_ck ⟨by omega, by omega⟩ (ok_lv ?_)))
  rw [eg _ (by omega)]
  exact ok_lv (ok_ar (by omega) (ok_some ⟨⟨by simp only; omega, by simp only; omega, by simp only; omega, hs⟩, by simp only; omega⟩))
theorem FCheck_eq (f : T_floor_Floor) : P_floor_Check_2 f = P_floor_Check f := by
  unfold P_floor_Check_2 P_floor_Check
  rfl
theorem Free_eq (f : T_floor_Floor) (r : Int) : P_floor_Free_2 f r = P_floor_Free f r := by
  unfold P_floor_Free_2 P_floor_Free
  rfl
theorem spans_ok {f f0 : T_floor_Floor} {k0 : Int} (hfe : T_floor_Floor.mk f0.Rows f0.Sites f0.Layers f0.Blocks f0.Walls [] = f) (hf : FlN f) (hp : f.Ports = []) :
    Ok (lp (P_maskkeep4_LegalPlaces_L18 (f0, k0)) fuel (0, 0, 0)) (fun s => s.1 = nsp f f.Rows.toNat ∧ s.2 = wds f f.Rows.toNat ∧ (0 ≤ s.1 ∧ s.1 ≤ 55) ∧ 0 ≤ s.2 ∧ s.2 ≤ 550) := by
  have hR : f0.Rows = f.Rows := by rw [← hfe]
  have a := hf.R
  have b := hf.S
  refine ok_lp (fun s => 0 ≤ s.2.2 ∧ s.2.2 ≤ f.Rows ∧ (0 ≤ s.1 ∧ s.1 ≤ 11 * s.2.2) ∧ (0 ≤ s.2.1 ∧ s.2.1 ≤ 110 * s.2.2) ∧ s.1 = nsp f s.2.2.toNat ∧ s.2.1 = wds f s.2.2.toNat) (fun s => (f.Rows - s.2.2).toNat)
    ⟨by simp, by simp only; omega, by simp, by simp, by simp [nsp], by simp [wds]⟩ (by simp only; omega) ?_
  rintro ⟨u, v, y⟩ ⟨y0, y1, u0, v0, h1, h2⟩
  simp only at y0 y1 u0 v0 h1 h2 ⊢
  unfold P_maskkeep4_LegalPlaces_L18
  dsimp only
  rw [hfe, hR, Free_eq]
  refine ok_ite (fun hlt => ?_) fun hge => ok_some (by rw [show f.Rows = y by omega]; exact ⟨h1, h2, by simp only; omega, by simp only; omega, by simp only; omega⟩)
  refine ok_bd (Free_fr hf hp y0 hlt) ?_
  rintro sp ⟨es, hs, hl⟩
  refine ok_bd (R := fun o => o.1 = nsp f (y + 1).toNat ∧ o.2 = wds f (y + 1).toNat ∧ (0 ≤ o.1 ∧ o.1 ≤ 11 * (y + 1)) ∧ 0 ≤ o.2 ∧ o.2 ≤ 110 * (y + 1)) ?_ ?_
  · refine ok_lp (fun s => 0 ≤ s.2.2 ∧ s.2.2 ≤ sp.length ∧ s.1 = u + s.2.2 ∧ s.2.1 = v + wsp sp s.2.2.toNat ∧ 0 ≤ wsp sp s.2.2.toNat ∧ wsp sp s.2.2.toNat ≤ 10 * s.2.2) (fun s => ((sp.length : Int) - s.2.2).toNat)
      ⟨by simp, by simp only; omega, by simp, by simp [wsp], by simp [wsp], by simp [wsp]⟩ (by simp only; omega) ?_
    rintro ⟨p, q, z⟩ ⟨z0, z1, hp1, hq1, w0, w1⟩
    simp only at z0 z1 hp1 hq1 w0 w1 ⊢
    unfold P_maskkeep4_LegalPlaces_L21
    dsimp only
    refine ok_ite (fun hz => ?_) fun hz => ok_some ?_
    · have g := hs.each z z0 hz
      have g1 := g.lo; have g2 := g.ne; have g3 := g.hi
      have ws := wsp_s (l := sp) (y := z) z0 rfl
      unfold wid at ws
      exact ok_ck ⟨z0, hz⟩ (ok_lv (ok_ar (by omega) (ok_ar (by omega) (ok_ar (by omega) (ok_ar (by omega) (ok_some ⟨⟨by simp only; omega, by simp only; omega, by simp only; omega, by simp only; omega, by simp only; omega, by simp only; omega⟩, by simp only; omega⟩))))))
    · have c1 := nsp_s (f := f) (y := y) y0 rfl
      have c2 := wds_s (f := f) (y := y) y0 rfl
      rw [← es] at c1 c2
      rw [show sp.length = z.toNat by omega] at c2
      simp only
      omega
  rintro ⟨p, q⟩ ⟨o1, o2, o3, o4⟩
  simp only at o1 o2 o3 o4 ⊢
  exact ok_ar (by omega) (ok_some ⟨⟨by simp only; omega, by simp only; omega, o3, o4, o1, o2⟩, by simp only; omega⟩)
theorem LegalPlaces_ok {L : List Int} (hL : Strm L) : Ok (P_maskkeep4_LegalPlaces L) (fun r => r = true) := by
  unfold P_maskkeep4_LegalPlaces
  refine ok_bd (Floor_ok hL (k := 0) (by omega) (by omega)) ?_
  rintro ⟨f0, k0⟩ ⟨hf0, k00, k01⟩
  simp only at hf0 k00 k01 ⊢
  refine ok_bd (hL.next (by omega) (by omega)) ?_
  rintro ⟨m, k1⟩ ⟨m0, m1, -, ek⟩
  have m1 := m1 (by omega)
  simp only at m0 m1 ek ⊢
  refine ok_bd (drawn_ok hL rfl m0 m1 (by omega) (by omega)) ?_
  rintro ⟨want, area, sum, most⟩ h
  simp only at h ⊢
  have hf : FlN (T_floor_Floor.mk f0.Rows f0.Sites f0.Layers f0.Blocks f0.Walls []) := ⟨hf0.R, hf0.S, hf0.Ly, hf0.blockL, hf0.block, hf0.wallL, hf0.wall, by simp, All.nil⟩
  have hw : Wants m.toNat want area := ⟨by have := h.lw; omega, by have := h.la; omega, by omega, fun i i0 i1 => h.pt i i0 (by omega), fun i i0 i1 => h.ar i i0 (by omega)⟩
  have sp := spans_ok (k0 := k0) (rfl : _ = _) hf rfl
  have hp : (T_floor_Floor.mk f0.Rows f0.Sites f0.Layers f0.Blocks f0.Walls []).Ports = [] := rfl
  generalize T_floor_Floor.mk f0.Rows f0.Sites f0.Layers f0.Blocks f0.Walls [] = f at hf hp sp ⊢
  refine ok_bd (Place_ok hf hp hw) ?_
  rintro ⟨out, e⟩ hres
  simp only at hres ⊢
  refine ok_bd rows_ok ?_
  rintro _ rfl
  refine ok_bd (R := fun r => r = 0) (ok_gd (fun _ => by rw [FCheck_eq]; exact FCheck0 hf hp) fun h => by simp at h) ?_
  rintro _ rfl
  refine ok_lv (ok_f (by simp) (ok_bd sp ?_))
  rintro ⟨n, v⟩ ⟨e1, e2, b1, b2⟩
  simp only at e1 e2 b1 b2 ⊢
  have m0' := h.m0
  have s0' := h.s0
  refine ok_ite (fun he => ?_) fun he => ?_
  · rcases hres with ⟨q, -⟩ | ⟨-, eo, c, c0, c1, hlt⟩
    · omega
    have hm := h.mo c c0 (by omega)
    have sm := h.sm
    have mul : n * (gt area c - 1) ≤ n * (most - 1) := Int.mul_le_mul_of_nonneg_left (by omega) b1.1
    have top : 0 ≤ n * (most - 1) ∧ n * (most - 1) ≤ 110 := by
      have : most = 1 ∨ most = 2 ∨ most = 3 := by omega
      rcases this with q | q | q <;> rw [q] <;> omega
    rw [← e1, ← e2, ← sm] at hlt
    refine ok_ar (by omega) (ok_ar (by omega) (ok_ar (by omega) (ok_lv (ok_some ?_))))
    rw [eo]
    simp only [Bool.and_eq_true, decide_eq_true_eq, List.length_nil]
    exact ⟨by omega, rfl⟩
  · rcases hres with ⟨q, hc⟩ | ⟨q, -⟩
    · refine ok_bd (R := fun r => r = 0) (ok_gd (fun _ => hc) fun h => by simp [q] at h) ?_
      rintro _ rfl
      exact ok_lv (ok_some (by simp [q]))
    · exact absurd q he
end Go.Proofs.YtfkncjfpgflafaaDoor.X
