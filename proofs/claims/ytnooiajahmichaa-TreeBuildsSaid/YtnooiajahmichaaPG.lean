/- The law TreeWithin, plain. -/
import Derived.Test.YtnooiajahmichaaPF
namespace Go.Proofs.Ytnooiajahmichaa.X
open Go Go.RowKit
set_option linter.unusedVariables false
def WinsOk (ws : List T_tree_Window) : Prop := ∀ j, 0 ≤ j → j < (ws.length : Int) → 0 ≤ (gt ws j).Lo ∧ (gt ws j).Lo ≤ 1000 ∧ 0 ≤ (gt ws j).Hi ∧ (gt ws j).Hi ≤ 1000
theorem Skew_ok {ws : List T_tree_Window} (hw : WinsOk ws) (hl : ws.length ≤ 1000) : Ok (P_tree_Skew ws) (fun r => 0 ≤ r) := by
  unfold P_tree_Skew
  refine ok_ite (fun _ => ok_some (by omega)) fun h2 => ?_
  refine ok_bd (R := fun r => ws = r) ?_ ?_
  · unfold P_slices_Clone_tree_Window_tree_Window
    exact ok_lv (ok_ck (by unfold apOk; simp only [List.nil_append]; omega) (ok_some (List.nil_append _).symm))
  rintro _ rfl
  refine ok_ar' (by omega) fun x ex => ?_
  refine ok_bd (R := fun r => r.length = ws.length ∧ ∀ j, 0 ≤ j → j < (ws.length : Int) → 0 ≤ (gt r j).Lo ∧ (gt r j).Lo ≤ 1000) ?_ ?_
  · refine ok_lp (fun s => -1 ≤ s.2 ∧ s.2 ≤ (ws.length : Int) - 2 ∧ s.1.length = ws.length ∧ ∀ j, 0 ≤ j → j < (ws.length : Int) → 0 ≤ (gt s.1 j).Lo ∧ (gt s.1 j).Lo ≤ 1000) (fun s => (s.2 + 1).toNat) ⟨by simp only; omega, by simp only; omega, rfl, fun j j0 j1 => by have := hw j j0 j1; simp only; omega⟩ (by simp only; omega) ?_
    rintro ⟨a, i⟩ ⟨h0, h1, h3, h4⟩
    simp only at h0 h1 h3 h4
    unfold P_tree_Skew_L6
    simp only
    refine ok_ite (fun hlt => ?_) fun hge => ok_some ⟨h3, h4⟩
    refine ok_ck ⟨by omega, by omega⟩ (ok_lv' fun y ey => ok_ar' (by omega) fun x2 ex2 => ok_ck ⟨by omega, by omega⟩ (ok_lv' fun y2 ey2 => ok_lv' fun m em => ok_ck ⟨by omega, by omega⟩ (ok_lv' fun z ez => ok_ar' (by omega) fun x3 ex3 => ok_some ⟨⟨by simp only; omega, by simp only; omega, by simp only; rw [ez, stt_length, h3], fun j j0 j1 => ?_⟩, by simp only; omega⟩)))
    simp only
    have a1 := h4 i (by omega) (by omega)
    have a2 := h4 x2 (by omega) (by omega)
    rw [← ey] at a1; rw [← ey2] at a2
    rw [ez, gt_stt _ _ ⟨by omega, by omega⟩ j0]
    split
    · simp only; omega
    · exact h4 j j0 j1
  rintro af ⟨ha, hb⟩
  refine ok_ck ⟨by omega, by omega⟩ (ok_lv' fun y0 ey0 => ?_)
  have w0 := hw 0 (by omega) (by omega)
  rw [← ey0] at w0
  refine ok_bd (R := fun r => 0 ≤ r) ?_ fun r hr => ok_some hr
  refine ok_lp (fun s => 0 ≤ s.1 ∧ 0 ≤ s.2.1 ∧ s.2.1 ≤ 1000 ∧ 0 ≤ s.2.2 ∧ s.2.2 ≤ (ws.length : Int)) (fun s => ((ws.length : Int) - s.2.2).toNat) ⟨by simp, by simp only; omega, by simp only; omega, by simp, by simp only; omega⟩ (by simp only; omega) ?_
  rintro ⟨mo, be, y⟩ ⟨h0, h1, h3, h4, h5⟩
  simp only at h0 h1 h3 h4 h5
  unfold P_tree_Skew_L11
  simp only
  refine ok_ite (fun hlt => ?_) fun hge => ok_some h0
  have w := hw y h4 hlt
  refine ok_ck ⟨by omega, by omega⟩ (ok_lv' fun z ez => ?_)
  rw [← ez] at w
  refine ok_bd (R := fun o => 0 ≤ o.1 ∧ 0 ≤ o.2 ∧ o.2 ≤ 1000) (ok_ite (fun _ => ok_ar' (by omega) fun x1 e1 => ok_lv' fun x2 e2 => ok_lv' fun x3 e3 => ok_some ⟨by simp only; omega, by simp only; omega, by simp only; omega⟩) fun _ => ok_some ⟨h0, h1, h3⟩) ?_
  rintro ⟨mo2, be2⟩ ⟨g0, g1, g2⟩
  simp only at g0 g1 g2
  refine ok_ar' (by omega) fun x1 e1 => ?_
  refine ok_bd (R := fun o => 0 ≤ o) (ok_ite (fun hx => ok_ar' (by omega) fun x2 e2 => ok_ck ⟨by omega, by omega⟩ (ok_lv' fun z2 ez2 => ?_)) fun _ => ok_some g0) ?_
  · have a2 := hb x2 (by omega) (by omega)
    rw [← ez2] at a2
    exact ok_ar' (by omega) fun x4 e4 => ok_lv' fun x5 e5 => ok_some (by omega)
  intro mo3 g3
  exact ok_ar' (by omega) fun x6 e6 => ok_some ⟨⟨g3, g1, g2, by simp only; omega, by simp only; omega⟩, by simp only; omega⟩
theorem trees_ok : P_maskkeep4_trees = some true := by decide +kernel
theorem TreeWithin_ok {L : List Int} (hL : Strm L) : Ok (P_maskkeep4_TreeWithin L) (fun r => r = true) := by
  unfold P_maskkeep4_TreeWithin
  refine ok_bd (LayLib_ok hL (by omega) (by omega)) ?_
  rintro ⟨l, k1⟩ ⟨hl, hk0, hk1⟩
  simp only at hl hk0 hk1
  dsimp only
  refine ok_bd (hL.range (by omega) (by omega) (by omega) (by omega)) ?_
  rintro ⟨nn, k2⟩ ⟨hn0, hn1, hk2⟩
  simp only at hn0 hn1 hk2
  dsimp only
  obtain ⟨n, rfl⟩ := Int.eq_ofNat_of_zero_le (by omega : 0 ≤ nn)
  refine ok_bd (Tree_ok hL (by omega) ⟨hn0, hn1⟩) ?_
  rintro ⟨t, k3⟩ ⟨⟨b, h⟩, hk3, hk4⟩
  simp only [Int.toNat_natCast] at h hk3 hk4
  dsimp only
  have hu := h.upL
  have hlf := h.leafL
  have hb := h.le8
  have h8 := hl.len
  have hcell := h.cell
  have hm0 := hl.c0.n.minL
  have hM0 := hl.c0.n.maxL
  have hmm := hl.c0.n.mm 0 ⟨by omega, by omega⟩
  have hdr := hl.c0.n.drive
  refine ok_ck ⟨by omega, by omega⟩ (ok_lv' fun z ez => ?_)
  have hzl : z.length = n := by rw [ez]; simp
  refine ok_bd (R := fun cs => Flops n cs) ?_ ?_
  · refine ok_lp (fun s => 0 ≤ s.2.1 ∧ s.2.1 ≤ n ∧ s.1.length = n ∧ s.2.2 = k3 + s.2.1 ∧ ∀ j, 0 ≤ j → j < s.2.1 → gt s.1 j = 6 ∨ gt s.1 j = 7) (fun s => ((n : Int) - s.2.1).toNat) ⟨by simp, by simp only; omega, hzl, by simp, fun j j0 j1 => by simp only at j1; omega⟩ (by simp only; omega) ?_
    rintro ⟨cs, y, k⟩ ⟨h0, h1, h3, h4, h5⟩
    simp only at h0 h1 h3 h4 h5
    unfold P_maskkeep4_TreeWithin_L7
    simp only
    refine ok_ite (fun hlt => ?_) fun hge => ok_some ⟨h3, fun j j0 j1 => h5 j j0 (by omega)⟩
    refine ok_bd (hL.next (by omega) (by omega)) ?_
    rintro ⟨r, k'⟩ ⟨r0, r1, r2, r3⟩
    simp only at r0 r1 r2 r3
    have r1 := r1 (by omega)
    refine ok_ar' (by simp only; omega) fun x ex => ok_ck ⟨by omega, by omega⟩ (ok_lv' fun z2 ez2 => ok_ar' (by omega) fun x2 ex2 => ok_some ⟨⟨by simp only; omega, by simp only; omega, by simp only; rw [ez2, stt_length, h3], by simp only; omega, fun j j0 j1 => ?_⟩, by simp only; omega⟩)
    simp only at j1 ex
    simp only
    rw [ez2, gt_stt _ _ ⟨by omega, by omega⟩ j0]
    split
    · omega
    · exact h5 j j0 (by omega)
  intro cs hcs
  refine ok_bd (Arrivals_ok h hl hcs) ?_
  rintro ⟨ar, e⟩ ⟨ha0, ha1, ha2⟩
  simp only at ha0 ha1 ha2
  dsimp only
  subst ha0
  refine ok_bd (R := fun r => r = true) ⟨true, trees_ok, rfl⟩ ?_
  rintro _ rfl
  refine ok_lv' fun x53 e53 => ok_lv' fun x59 e59 => ok_f ?_ ?_
  · rw [e59, e53]; simp [ha1]
  refine ok_bd (R := fun ld0 => 0 ≤ ld0 ∧ ld0 ≤ 400 ∧ ∀ j, 0 ≤ j → j < (b : Int) → 0 ≤ ld t l cs j ∧ ld t l cs j ≤ ld0) ?_ ?_
  · refine ok_lp (fun s => -1 ≤ s.2 ∧ s.2 ≤ b ∧ 0 ≤ s.1 ∧ s.1 ≤ 40 * (s.2 + 1) ∧ ∀ j, 0 ≤ j → j < s.2 → 0 ≤ ld t l cs j ∧ ld t l cs j ≤ s.1) (fun s => ((b : Int) - s.2).toNat) ⟨by simp, by simp only; omega, by simp, by simp, fun j j0 j1 => by simp only at j1; omega⟩ (by simp only; omega) ?_
    rintro ⟨a, y⟩ ⟨h0, h1, h3, h4, h5⟩
    simp only at h0 h1 h3 h4 h5
    unfold P_maskkeep4_TreeWithin_L16
    simp only
    refine ok_ite (fun hlt => ?_) fun hge => ok_some ⟨h3, by omega, fun j j0 j1 => h5 j j0 (by omega)⟩
    refine ok_bd (Load_ld h hl hcs h0 (by omega)) ?_
    rintro r ⟨er, r0, r1⟩
    refine ok_ar' (by omega) fun x ex => ok_ar' (by omega) fun x2 ex2 => ok_some ⟨⟨by simp only; omega, by simp only; omega, by simp only; omega, by simp only; omega, fun j j0 j1 => ?_⟩, by simp only; omega⟩
    simp only at j1
    simp only
    by_cases e : j = y
    · subst e; omega
    · have := h5 j j0 (by omega); omega
  rintro ld0 ⟨l0, l1, l2⟩
  refine ok_ck ⟨by omega, by omega⟩ (ok_lv' fun c0 ec0 => ?_)
  rw [hcell] at ec0
  subst ec0
  have hd0 : 0 ≤ (gt l 0).Drive * ld0 := Int.mul_nonneg (by omega) (by omega)
  have hd1 : (gt l 0).Drive * ld0 ≤ 2 * 400 := Int.mul_le_mul (by omega) (by omega) (by omega) (by omega)
  have hwin : ∀ j, 0 ≤ j → j < (n : Int) → (gt t.Leaf j < 0 ∧ gt ar j = ⟨0, 0⟩) ∨ (0 ≤ gt t.Leaf j ∧ gt (gt l 0).Min 0 ≤ (gt ar j).Lo ∧ (gt ar j).Lo ≤ (gt ar j).Hi ∧ (gt ar j).Hi ≤ gt (gt l 0).Max 0 + (gt l 0).Drive * ld0) := by
    intro j j0 j1
    have hv := h.gtL j0 j1
    rw [ha2 j j0 j1]
    unfold win
    split
    · left; exact ⟨by assumption, rfl⟩
    · rename_i hx
      right
      have h6 := l2 (gt t.Leaf j) (by omega) (by omega)
      have h7 : 0 ≤ (gt l 0).Drive * ld t l cs (gt t.Leaf j) := Int.mul_nonneg (by omega) (by omega)
      have h9 : (gt l 0).Drive * ld t l cs (gt t.Leaf j) ≤ (gt l 0).Drive * ld0 := Int.mul_le_mul_of_nonneg_left (by omega) (by omega)
      refine ⟨by omega, by simp only; omega, by simp only; omega, by simp only; omega⟩
  have hwok : WinsOk ar := by
    intro j j0 j1
    rcases hwin j j0 (by omega) with ⟨_, e⟩ | ⟨_, h2, h3, h4⟩
    · rw [e]; exact ⟨by simp, by simp, by simp, by simp⟩
    · omega
  refine ok_bs1 (R := fun _ => True) ?_ fun _ _ => ok_bd (Skew_ok hwok (by omega)) fun r hr => ok_some (by simp only [decide_eq_true_eq]; exact hr)
  refine ok_lp (fun y => 0 ≤ y ∧ y ≤ n) (fun y => ((n : Int) - y).toNat) ⟨by omega, by omega⟩ (by omega) ?_
  rintro y ⟨h0, h1⟩
  unfold P_maskkeep4_TreeWithin_L21
  dsimp only
  refine ok_ite (fun hlt => ?_) fun hge => ok_some ⟨(), rfl, trivial⟩
  refine ok_ck ⟨by omega, by omega⟩ (ok_lv' fun w ew => ok_bd (Depth_ok h h0 (by omega)) ?_)
  rintro d ed
  have hw := hwin y h0 (by omega)
  rw [← ew] at hw
  have hd : (d = 0 ∧ w = ⟨0, 0⟩) ∨ (d = 1 ∧ gt (gt l 0).Min 0 ≤ w.Lo ∧ w.Lo ≤ w.Hi ∧ w.Hi ≤ gt (gt l 0).Max 0 + (gt l 0).Drive * ld0) := by
    rcases hw with ⟨e1, e2⟩ | ⟨e1, e2⟩
    · left; rw [if_pos e1] at ed; exact ⟨ed, e2⟩
    · right; rw [if_neg (by omega)] at ed; exact ⟨ed, e2⟩
  refine ok_ck ⟨by omega, by omega⟩ (ok_lv' fun m em => ?_)
  rcases hd with ⟨rfl, rfl⟩ | ⟨rfl, w1, w2, w3⟩
  · refine ok_ar' (by omega) fun x ex => ok_ck (fun _ => ⟨by omega, by omega⟩) (ok_lv' fun M eM => ok_ck (fun _ => by omega) (ok_lv' fun p ep => ok_ck (fun _ => by omega) (ok_lv' fun q eq => ok_ck (fun _ => by omega) (ok_lv' fun u eu => ok_lv' fun v ev => ok_lv' fun v2 ev2 => ok_f ?_ (ok_ar' (by omega) fun x3 e3 => ok_some ⟨⟨by omega, by omega⟩, by omega⟩)))))
    rw [ev2, ev, eu, ex]; simp
  · refine ok_ar' (by omega) fun x ex => ok_ck (fun _ => ⟨by omega, by omega⟩) (ok_lv' fun M eM => ok_ck (fun _ => by omega) (ok_lv' fun p ep => ok_ck (fun _ => by omega) (ok_lv' fun q eq => ok_ck (fun _ => by omega) (ok_lv' fun u eu => ok_lv' fun v ev => ok_lv' fun v2 ev2 => ok_f ?_ (ok_ar' (by omega) fun x3 e3 => ok_some ⟨⟨by omega, by omega⟩, by omega⟩)))))
    rw [ev2, ev]; simp only [Bool.or_eq_true, decide_eq_true_eq]; omega
end Go.Proofs.Ytnooiajahmichaa.X
