/- The stable sort of numbers: its result is a permutation. Plain. -/
import Derived.Test.YtnooiajahmichaaYP
import Derived.Test.YtnooiajahmichaaGA
namespace Go.Proofs.Ytnooiajahmichaa.X
open Go Go.RowKit
set_option linter.unusedVariables false
theorem swap_perm {xs : List Int} {i j : Int} (hi : inb i xs.length) (hj : inb j xs.length) : (stt (stt xs i (gt xs j)) j (gt xs i)).Perm xs := by
  unfold stt
  rw [gt_get hi, gt_get hj]
  exact List.set_set_perm (inb_lt hi) (inb_lt hj)
/-- What a sort keeps. -/
def Kept (xs ys : List Int) : Prop := ys.Perm xs ∧ ys.length = xs.length
theorem Kept.refl (xs : List Int) : Kept xs xs := ⟨List.Perm.refl _, rfl⟩
theorem Kept.trans {xs ys zs : List Int} (h : Kept xs ys) (k : Kept ys zs) : Kept xs zs := ⟨k.1.trans h.1, k.2.trans h.2⟩
theorem Kept.swap {xs ys : List Int} (h : Kept xs ys) {i j : Int} (hi : inb i ys.length) (hj : inb j ys.length) : Kept xs (stt (stt ys i (gt ys j)) j (gt ys i)) :=
  ⟨(swap_perm hi hj).trans h.1, by rw [stt_length, stt_length]; exact h.2⟩
theorem swapRange_ok {data : List Int} {a b n : Int} (cm : List T_floor_Point) (h0 : 0 ≤ a) (h1 : a + n ≤ data.length) (h2 : 0 ≤ b) (h3 : b + n ≤ data.length) (hl : data.length ≤ 1000000) : Ok (P_slices_swapRangeCmpFunc_int_2 data a b n cm) (Kept data) := by
  unfold P_slices_swapRangeCmpFunc_int_2
  refine ok_bd (R := Kept data) ?_ fun r hr => ok_some hr
  refine ok_lp (fun s => 0 ≤ s.2 ∧ (0 ≤ n → s.2 ≤ n) ∧ Kept data s.1) (fun s => (n - s.2).toNat) ⟨by simp, by simp only; omega, Kept.refl _⟩ (by simp only; omega) ?_
  rintro ⟨ys, i⟩ ⟨i0, i1, hk⟩
  simp only at i0 i1 hk
  have hyl := hk.2
  unfold P_slices_swapRangeCmpFunc_int_2_L1
  dsimp only
  refine ok_ite (fun hlt => ?_) fun hge => ok_some hk
  refine ok_ar' (by omega) fun x19 e19 => ok_ar' (by omega) fun x23 e23 => ok_ar' (by omega) fun x27 e27 => ok_ck ⟨by omega, by omega⟩ (ok_lv' fun x29 e29 => ok_ar' (by omega) fun x33 e33 => ok_ck ⟨by omega, by omega⟩ (ok_lv' fun x35 e35 => ok_ck ⟨by omega, by omega⟩ (ok_lv' fun z1 ez1 => ?_)))
  have hz1 : z1.length = ys.length := by rw [ez1, stt_length]
  refine ok_ck ⟨by omega, by omega⟩ (ok_lv' fun z2 ez2 => ok_ar' (by omega) fun x ex => ok_some ⟨⟨by simp only; omega, by simp only; omega, ?_⟩, by simp only; omega⟩)
  simp only
  rw [ez2, ez1, e29, e35, show x27 = x23 by omega, show x33 = x19 by omega]
  exact hk.swap ⟨by omega, by omega⟩ ⟨by omega, by omega⟩
theorem cmp_ok {at_ : List T_floor_Point} (hp : ∀ i, inb i at_.length → 0 ≤ (gt at_ i).X ∧ (gt at_ i).X ≤ 1000000 ∧ 0 ≤ (gt at_ i).Y ∧ (gt at_ i).Y ≤ 1000000) {a b : Int} (ha : inb a at_.length) (hb : inb b at_.length) : Ok (P_tree_inOrder_1 a b at_) (fun _ => True) := by
  unfold P_tree_inOrder_1
  have p := hp a ha
  have q := hp b hb
  refine ok_ck ha (ok_lv' fun y1 e1 => ok_ck (by omega) ?_)
  rw [← e1] at p
  have d1 : Int.tdiv y1.X 16 = y1.X / 16 := Int.tdiv_eq_ediv_of_nonneg (by omega)
  refine ok_ar' (by omega) fun x12 e12 => ok_ck hb (ok_lv' fun y2 e2 => ok_ck (by omega) ?_)
  rw [← e2] at q
  have d2 : Int.tdiv y2.X 16 = y2.X / 16 := Int.tdiv_eq_ediv_of_nonneg (by omega)
  refine ok_ar' (by omega) fun x18 e18 => ok_ar' (by omega) fun x19 e19 => ok_ite (fun _ => ok_some trivial) fun _ => ok_ck ha (ok_lv' fun y4 e4 => ok_ck hb (ok_lv' fun y5 e5 => ?_))
  rw [e4, e5, ← e1, ← e2]
  exact ok_ar' (by omega) fun x ex => ok_some trivial
/-- Points whose numbers are small, and numbers of points. -/
structure Pts (at_ : List T_floor_Point) (data : List Int) : Prop where
  pts : ∀ i, inb i at_.length → 0 ≤ (gt at_ i).X ∧ (gt at_ i).X ≤ 1000000 ∧ 0 ≤ (gt at_ i).Y ∧ (gt at_ i).Y ≤ 1000000
  few : data.length ≤ 1000000
  num : ∀ x ∈ data, inb x at_.length
theorem Pts.kept {at_ : List T_floor_Point} {xs ys : List Int} (h : Pts at_ xs) (k : Kept xs ys) : Pts at_ ys := ⟨h.pts, by rw [k.2]; exact h.few, fun x hx => h.num x (k.1.mem_iff.1 hx)⟩
theorem Pts.cmp {at_ : List T_floor_Point} {xs : List Int} (h : Pts at_ xs) {i j : Int} (hi : inb i xs.length) (hj : inb j xs.length) : Ok (P_tree_inOrder_1 (gt xs i) (gt xs j) at_) (fun _ => True) := cmp_ok h.pts (h.num _ (gt_mem hi)) (h.num _ (gt_mem hj))
theorem insertion_ok {data : List Int} {a b : Int} {cm : List T_floor_Point} (hp : Pts cm data) (h0 : 0 ≤ a) (h1 : b ≤ data.length) (hb : a ≤ b) : Ok (P_slices_insertionSortCmpFunc_int_2 data a b cm) (Kept data) := by
  unfold P_slices_insertionSortCmpFunc_int_2
  have hf := hp.few
  refine ok_ar' (by omega) fun x11 e11 => ok_bd (R := Kept data) ?_ fun r hr => ok_some hr
  refine ok_lp (fun s => a + 1 ≤ s.2 ∧ s.2 ≤ b + 1 ∧ Kept data s.1) (fun s => (b - s.2).toNat) ⟨by simp only; omega, by simp only; omega, Kept.refl _⟩ (by simp only; omega) ?_
  rintro ⟨ys, i⟩ ⟨i0, i1, hk⟩
  simp only at i0 i1 hk
  unfold P_slices_insertionSortCmpFunc_int_2_L1
  dsimp only
  refine ok_ite (fun hlt => ?_) fun hge => ok_some hk
  refine ok_bd (R := Kept data) ?_ fun zs hz => ok_ar' (by omega) fun x ex => ok_some ⟨⟨by simp only; omega, by simp only; omega, hz⟩, by simp only; omega⟩
  refine ok_lp (fun s => a ≤ s.2 ∧ s.2 < b ∧ Kept data s.1) (fun s => (s.2 - a).toNat) ⟨by simp only; omega, by simp only; omega, hk⟩ (by simp only; omega) ?_
  rintro ⟨ys, j⟩ ⟨j0, j1, hk⟩
  simp only at j0 j1 hk
  have hyl := hk.2
  unfold P_slices_insertionSortCmpFunc_int_2_L4
  dsimp only
  refine ok_ck (fun _ => ⟨by omega, by omega⟩) (ok_lv' fun x26 e26 => ok_ck (fun _ => by omega) (ok_lv' fun x29 e29 => ok_ck (fun hq => ⟨by simp only [decide_eq_true_eq] at hq; omega, by omega⟩) (ok_lv' fun x31 e31 => ?_)))
  refine ok_bd (R := fun _ => True) (ok_gd (fun hq => ?_) fun _ => trivial) fun r hr => ok_lv' fun x34 e34 => ok_ite (fun hq => ?_) fun _ => ok_some hk
  · simp only [decide_eq_true_eq] at hq
    rw [e26, e31]
    exact (hp.kept hk).cmp ⟨by omega, by omega⟩ ⟨by omega, by omega⟩
  · rw [e34] at hq
    simp only [Bool.and_eq_true, decide_eq_true_eq] at hq
    refine ok_ar' (by omega) fun x41 e41 => ok_ar' (by omega) fun x44 e44 => ok_ck ⟨by omega, by omega⟩ (ok_lv' fun x46 e46 => ok_ck ⟨by omega, by omega⟩ (ok_lv' fun x50 e50 => ok_ck ⟨by omega, by omega⟩ (ok_lv' fun z1 ez1 => ?_)))
    have hz1 : z1.length = ys.length := by rw [ez1, stt_length]
    refine ok_ck ⟨by omega, by omega⟩ (ok_lv' fun z2 ez2 => ok_ar' (by omega) fun x ex => ok_some ⟨⟨by simp only; omega, by simp only; omega, ?_⟩, by simp only; omega⟩)
    simp only
    rw [ez2, ez1, e46, e50, show x44 = x41 by omega]
    exact hk.swap ⟨by omega, by omega⟩ ⟨by omega, by omega⟩
theorem rotate_ok {data : List Int} {a m b : Int} {cm : List T_floor_Point} (hf : data.length ≤ 1000000) (h0 : 0 ≤ a) (h1 : a < m) (h2 : m < b) (h3 : b ≤ data.length) : Ok (P_slices_rotateCmpFunc_int_2 data a m b cm) (Kept data) := by
  unfold P_slices_rotateCmpFunc_int_2
  refine ok_ar' (by omega) fun x14 e14 => ok_ar' (by omega) fun x17 e17 => ?_
  refine ok_bd (R := fun o => 0 < o.2 ∧ o.2 ≤ x14 ∧ o.2 ≤ x17 ∧ Kept data o.1) ?_ ?_
  · refine ok_lp (fun s => 0 < s.2.1 ∧ s.2.1 ≤ x14 ∧ 0 < s.2.2 ∧ s.2.2 ≤ x17 ∧ Kept data s.1) (fun s => (s.2.1 + s.2.2).toNat) ⟨by simp only; omega, by simp, by simp only; omega, by simp, Kept.refl _⟩ (by simp only; omega) ?_
    rintro ⟨ys, i, j⟩ ⟨i0, i1, j0, j1, hk⟩
    simp only at i0 i1 j0 j1 hk
    have hyl := hk.2
    unfold P_slices_rotateCmpFunc_int_2_L2
    dsimp only
    refine ok_ite (fun hne => ?_) fun heq => ok_some ⟨by simp only; omega, by simp only; omega, by simp only; omega, hk⟩
    refine ok_bd (R := fun o => 0 < o.2.1 ∧ o.2.1 ≤ x14 ∧ 0 < o.2.2 ∧ o.2.2 ≤ x17 ∧ Kept data o.1 ∧ o.2.1 + o.2.2 < i + j) ?_ ?_
    · refine ok_ite (fun hlt => ok_ar' (by omega) fun y1 d1 => ok_bd (swapRange_ok cm (by omega) (by omega) (by omega) (by omega) (by omega)) fun r hr => ok_ar' (by omega) fun y2 d2 => ok_some ⟨by simp only; omega, by simp only; omega, by simp only; omega, by simp only; omega, hk.trans hr, by simp only; omega⟩) fun hge => ?_
      exact ok_ar' (by omega) fun y1 d1 => ok_ar' (by omega) fun y2 d2 => ok_ar' (by omega) fun y3 d3 => ok_bd (swapRange_ok cm (by omega) (by omega) (by omega) (by omega) (by omega)) fun r hr => ok_ar' (by omega) fun y4 d4 => ok_some ⟨by simp only; omega, by simp only; omega, by simp only; omega, by simp only; omega, hk.trans hr, by simp only; omega⟩
    · rintro ⟨zs, i', j'⟩ ⟨a0, a1, a2, a3, a4, a5⟩
      simp only at a0 a1 a2 a3 a4 a5
      exact ok_some ⟨⟨a0, a1, a2, a3, a4⟩, by simp only; omega⟩
  · rintro ⟨ys, i⟩ ⟨i0, i1, i2, hk⟩
    simp only at i0 i1 i2 hk
    have hyl := hk.2
    exact ok_ar' (by omega) fun y1 d1 => ok_bd (swapRange_ok cm (by omega) (by omega) (by omega) (by omega) (by omega)) fun r hr => ok_some (hk.trans hr)
end Go.Proofs.Ytnooiajahmichaa.X
