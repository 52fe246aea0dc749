/- tree.Build: what it returns. Plain. -/
import Derived.Test.YtnooiajahmichaaPO
namespace Go.Proofs.Ytnooiajahmichaa.X
open Go Go.RowKit
set_option linter.unusedVariables false
theorem Index_ok {l : List T_api_Cell} (h : Lib8 l) : Ok (P_slices_IndexFunc_api_Cell_api_Cell_2 l) (fun r => r = 0) := by
  have h8 := h.len
  unfold P_slices_IndexFunc_api_Cell_api_Cell_2
  refine ok_bs (R := fun o => o = .inr 0) ?_ (fun x hx => by cases hx) (fun y hy => by cases hy; exact ok_some rfl)
  rw [fuel3]
  refine lp_step ?_
  unfold P_slices_IndexFunc_api_Cell_api_Cell_2_L2
  refine ok_t (by omega) (ok_ck ⟨by omega, by omega⟩ (ok_lv (ok_bd (R := fun r => r = true) ?_ ?_)))
  · unfold P_tree_IsBuffer
    exact ok_lv (ok_lv (ok_some (by rw [h.c0.flop, h.c0.ins, h.c0.table]; rfl)))
  · rintro _ rfl
    exact ok_t rfl (ok_some rfl)
theorem fill_ok {z : List Int} (hl : z.length ≤ 1000) : Ok (lp (P_tree_Build_L11 z) fuel (0, z)) (fun r => r.length = z.length ∧ ∀ j, 0 ≤ j → j < (z.length : Int) → gt r j = -1) := by
  refine ok_lp (fun s => 0 ≤ s.1 ∧ s.1 ≤ z.length ∧ s.2.length = z.length ∧ ∀ j, 0 ≤ j → j < s.1 → gt s.2 j = -1) (fun s => ((z.length : Int) - s.1).toNat) ⟨by simp, by simp, rfl, fun j j0 j1 => by simp only at j1; omega⟩ (by simp only; omega) ?_
  rintro ⟨y, b⟩ ⟨y0, y1, h1, h2⟩
  simp only at y0 y1 h1 h2
  unfold P_tree_Build_L11
  dsimp only
  refine ok_ite (fun hlt => ok_ck ⟨by omega, by omega⟩ (ok_lv (ok_ar' (by omega) fun x ex => ok_some ⟨⟨by simp only; omega, by simp only; omega, by simp only; rw [stt_length, h1], fun j j0 j1 => ?_⟩, by simp only; omega⟩))) fun hge => ok_some ⟨h1, fun j j0 j1 => h2 j j0 (by omega)⟩
  simp only at j1 ⊢
  rw [gt_stt _ _ ⟨y0, by omega⟩ j0]
  split
  · rfl
  · exact h2 j j0 (by omega)
def PtsOk (at_ : List T_floor_Point) : Prop := ∀ i, inb i at_.length → 0 ≤ (gt at_ i).X ∧ (gt at_ i).X ≤ 1000000 ∧ 0 ≤ (gt at_ i).Y ∧ (gt at_ i).Y ≤ 1000000
theorem Build_ok {at_ : List T_floor_Point} (hp : PtsOk at_) (hl : at_.length ≤ 288) {l : List T_api_Cell} (h8 : Lib8 l) : Ok (P_tree_Build at_ l) (fun r => r.2 = 0 ∧ ∃ o m1 m, Built r.1 o at_.length m1 m) := by
  unfold P_tree_Build
  refine ok_bd (LibCheck_ok h8) ?_
  rintro _ rfl
  refine ok_f (by simp) (ok_f (by omega) (ok_ck ⟨by omega, by omega⟩ (ok_lv' fun z ez => ok_bd (Index_ok h8) ?_)))
  have hz : z.length = at_.length := by rw [ez]; simp
  rintro _ rfl
  refine ok_bd (inOrder_ok hp (by omega)) ?_
  intro o ho
  have ho : Ord o at_.length := ⟨ho⟩
  refine ok_bd (fill_ok (by omega)) ?_
  rintro lf0 ⟨f1, f2⟩
  rw [hz] at f1 f2
  have hol := ho.len
  generalize hn : at_.length = n at *
  clear hp hn ez hz
  refine ok_ite (fun hle => ?_) fun hgt => ?_
  · exact ok_some ⟨rfl, o, 0, 0, ⟨rfl, ho, rfl, fun j j0 j1 => by omega, fun x hx => by omega, f1, fun x hx => by rw [if_pos rfl]; exact f2 _ (ho.rng hx).1 (ho.rng hx).2, .inl ⟨rfl, rfl, by omega⟩⟩⟩
  refine ok_f (by omega) (ok_bd (levels_ok (by omega) hl) ?_)
  generalize hm : (n + 7) / 8 = m
  rintro lv (⟨h64, C, rfl, c1, c2⟩ | ⟨h64, C, D, rfl, ⟨c1, c2⟩, d1, d2⟩)
  · refine ok_ar' (by simp only [List.length_singleton]; omega) fun x75 e75 => ?_
    simp only [List.length_singleton] at e75
    have e75 : x75 = 0 := by omega
    subst e75
    refine ok_bd (R := fun r => r.1.length = m ∧ (∀ j, 0 ≤ j → j < (m : Int) → gt r.1 j = -1) ∧ r.2.length = n ∧ ∀ x, 0 ≤ x ∧ x < (n : Int) → gt r.2 (gt o x) = 0 + x * m / n) ?_ ?_
    · rw [fuel3]
      refine lp_step ?_
      unfold P_tree_Build_L28
      dsimp only
      have g0 : gt [C] 0 = C := rfl
      refine ok_t (by omega) (ok_ck ⟨by omega, by simp⟩ (ok_lv ?_))
      rw [g0, c1]
      refine ok_ar' (by omega) fun x86 e86 => ok_ar' (by omega) fun x87 e87 => ok_bd (grow_ok (by omega) (by omega) (by simp)) ?_
      rintro u ⟨u1, u2⟩
      simp only [List.length_nil] at u1 u2
      refine ok_ck ⟨by omega, by simp⟩ (ok_lv (ok_bd (outer0_ok (m := m) ho hl ⟨by omega, by omega⟩ ⟨by omega, by omega⟩ (by omega) c1 c2 f1) ?_))
      rintro ⟨_, lf⟩ ⟨rfl, l1, l2⟩
      simp only at l1 l2
      refine ok_ck ⟨by omega, by simp⟩ (ok_lv ?_)
      rw [c1]
      refine ok_ar' (by omega) fun x1 e1 => ok_ar' (by omega) fun x2 e2 => ok_some ?_
      refine lp_step ?_
      dsimp only
      refine ok_f (by omega) (ok_some ⟨by omega, fun j j0 j1 => ?_, l1, l2⟩)
      rw [u2 j j0 (by omega), if_neg (by omega), if_neg (by omega)]
    · rintro ⟨u, lf⟩ ⟨u1, u2, l1, l2⟩
      simp only at u1 u2 l1 l2
      exact ok_some ⟨rfl, o, 0, m, ⟨rfl, ho, by simp only; omega, fun j j0 j1 => by omega, fun x hx => by rw [if_pos rfl]; exact u2 _ (by omega) (by omega), l1, fun x hx => by rw [if_neg (by omega)]; exact l2 x hx, .inr (.inl ⟨by omega, h64, hm.symm, rfl⟩)⟩⟩
  · generalize hm1 : (m + 7) / 8 = m1 at *
    refine ok_ar' (by simp only [List.length_cons, List.length_nil]; omega) fun x75 e75 => ?_
    simp only [List.length_cons, List.length_nil] at e75
    have e75 : x75 = 1 := by omega
    subst e75
    have g0 : gt [C, D] 0 = C := rfl
    have g1 : gt [C, D] 1 = D := rfl
    refine ok_bd (R := fun r => r.1.length = m1 + m ∧ (∀ j, 0 ≤ j → j < (m1 : Int) → gt r.1 j = -1) ∧ (∀ x, 0 ≤ x ∧ x < (m : Int) → gt r.1 (m1 + x) = x * m1 / m) ∧ r.2.length = n ∧ ∀ x, 0 ≤ x ∧ x < (n : Int) → gt r.2 (gt o x) = m1 + x * m / n) ?_ ?_
    · rw [fuel3]
      refine lp_step ?_
      unfold P_tree_Build_L28
      dsimp only
      refine ok_t (by omega) (ok_ck ⟨by omega, by simp⟩ (ok_lv ?_))
      rw [g1, d1]
      refine ok_ar' (by omega) fun x86 e86 => ok_ar' (by omega) fun x87 e87 => ok_bd (grow_ok (by omega) (by omega) (by simp)) ?_
      rintro u ⟨u1, u2⟩
      simp only [List.length_nil] at u1 u2
      refine ok_ck ⟨by omega, by simp⟩ (ok_lv (ok_bd (outer1_ok (m := m) (m1 := m1) (by omega) ⟨by omega, by omega⟩ d1 d2 rfl (by rw [g1, d1]) (by omega) (fun j j0 j1 => ?_)) ?_))
      · rw [u2 j j0 (by omega), if_neg (by omega), if_neg (by omega)]
      rintro ⟨u', _⟩ ⟨rfl, hh⟩
      simp only at hh
      refine ok_ck ⟨by omega, by simp⟩ (ok_lv ?_)
      rw [d1]
      refine ok_ar' (by omega) fun x1 e1 => ok_ar' (by omega) fun x2 e2 => ok_some ?_
      have e1 : x1 = m1 := by omega
      have e2 : x2 = 0 := by omega
      subst e1 e2
      have hl0 := hh.l0
      have hl1 := hh.l1
      have hlast := (hh.mid (m - 1) ⟨by omega, by omega⟩ trivial).1
      refine lp_step ?_
      dsimp only
      refine ok_t (by omega) (ok_ck ⟨by omega, by simp⟩ (ok_lv ?_))
      rw [g0, c1]
      refine ok_ar' (by omega) fun x86 e86 => ok_ar' (by omega) fun x87 e87 => ok_bd (grow_ok (by omega) (by omega) (by simp only; omega)) ?_
      rintro v ⟨v1, v2⟩
      simp only at v1 v2
      refine ok_ck ⟨by omega, by simp⟩ (ok_lv (ok_bd (outer0_ok (m := m) ho hl ⟨by omega, by omega⟩ ⟨by omega, by omega⟩ (by omega) c1 c2 f1) ?_))
      rintro ⟨_, lf⟩ ⟨rfl, l1, l2⟩
      simp only at v1 v2 l1 l2
      refine ok_ck ⟨by omega, by simp⟩ (ok_lv ?_)
      rw [c1]
      refine ok_ar' (by omega) fun x1 e1 => ok_ar' (by omega) fun x2 e2 => ok_some ?_
      refine lp_step ?_
      dsimp only
      refine ok_f (by omega) (ok_some ⟨by simp only; omega, fun j j0 j1 => ?_, fun x hx => ?_, l1, l2⟩)
      · simp only; rw [v2 j j0 (by omega), if_neg (by omega), if_pos (by omega)]; exact hh.top j j0 j1
      · have := hh.mid x hx trivial
        simp only; rw [v2 _ (by omega) (by omega), if_neg (by omega), if_pos (by omega)]; exact this.2
    · rintro ⟨u, lf⟩ ⟨u1, u2, u3, l1, l2⟩
      simp only at u1 u2 u3 l1 l2
      exact ok_some ⟨rfl, o, m1, m, ⟨rfl, ho, u1, u2, fun x hx => by rw [if_neg (by omega)]; exact u3 x hx, l1, fun x hx => by rw [if_neg (by omega)]; exact l2 x hx, .inr (.inr ⟨h64, hl, hm.symm, hm1.symm⟩)⟩⟩
theorem Build_nil {at_ : List T_floor_Point} (hp : PtsOk at_) (hl : at_.length ≤ 288) : Ok (P_tree_Build at_ []) (fun r => r.2 = if at_.length ≤ 8 then 0 else 7) := by
  unfold P_tree_Build
  refine ok_bd (R := fun r => r = 0) ⟨0, ?_, rfl⟩ ?_
  · unfold P_lib_Check
    rw [fuel3]; rfl
  rintro _ rfl
  refine ok_f (by simp) (ok_f (by omega) (ok_ck ⟨by omega, by omega⟩ (ok_lv' fun z ez => ok_bd (R := fun r => r = -1) ⟨-1, ?_, rfl⟩ ?_)))
  · unfold P_slices_IndexFunc_api_Cell_api_Cell_2
    rw [fuel3]; rfl
  have hz : z.length = at_.length := by rw [ez]; simp
  rintro _ rfl
  refine ok_bd (inOrder_ok hp (by omega)) ?_
  intro o ho
  refine ok_bd (fill_ok (by omega)) ?_
  rintro lf0 ⟨f1, f2⟩
  refine ok_ite (fun hle => ok_some ?_) fun hgt => ok_t (by omega) (ok_some ?_)
  · rw [if_pos (by omega)]
  · rw [if_neg (by omega)]
end Go.Proofs.Ytnooiajahmichaa.X
