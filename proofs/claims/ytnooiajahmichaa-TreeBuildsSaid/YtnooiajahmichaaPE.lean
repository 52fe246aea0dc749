/- tree.Check takes a flat tree. -/
import Derived.Test.YtnooiajahmichaaPD
namespace Go.Proofs.Ytnooiajahmichaa.X
open Go Go.RowKit
set_option linter.unusedVariables false
theorem TreeCheck_ok {t : T_tree_Tree} {n b : Nat} (h : Flat t n b) {l : List T_api_Cell} (hl : Lib8 l) : Ok (P_tree_Check t (n : Int) l) (fun r => r = 0) := by
  unfold P_tree_Check
  have hb := h.le8
  have hu := h.upL
  have hL := h.leafL
  have hn := h.shape.nR
  have h8 := hl.len
  have hc := h.cell
  refine ok_bd (LibCheck_ok hl) ?_
  rintro _ rfl
  refine ok_f (by simp) (ok_lv (ok_f (by simp only [Bool.or_eq_true, decide_eq_true_eq]; omega) (ok_f (by omega) (ok_lv (ok_bd (R := fun r => r = false) ?_ ?_)))))
  · refine ok_f (by simp [hc]) (ok_bd (R := fun r => r = false) (ok_f (by omega) (ok_lv (ok_some (by simp; omega)))) ?_)
    rintro _ rfl; exact ok_some rfl
  rintro _ rfl
  refine ok_f (by simp) (ok_ck (fun hh => ⟨by omega, by omega⟩) (ok_lv (ok_bd (R := fun r => 0 < b → r = true) ?_ ?_)))
  · refine ok_gd (fun _ => ?_) (fun hh hb => by simp only [decide_eq_false_iff_not] at hh; omega)
    unfold P_tree_IsBuffer
    rw [hc]
    exact ok_lv (ok_lv (ok_some fun _ => by rw [hl.c0.flop, hl.c0.ins, hl.c0.table]; rfl))
  intro ib hib
  refine ok_lv (ok_f ?_ ?_)
  · simp only [Bool.and_eq_true, decide_eq_true_eq, not_and]
    intro h1
    rw [hib (by omega)]; simp
  refine ok_bs1 (R := fun _ => True) ?_ fun _ _ => ok_bs1 (R := fun _ => True) ?_ fun _ _ => ok_bs1 (R := fun _ => True) ?_ fun _ _ => ok_some rfl
  · refine ok_lp (fun y => 0 ≤ y ∧ y ≤ b) (fun y => ((b : Int) - y).toNat) ⟨by omega, by omega⟩ (by omega) ?_
    rintro y ⟨h0, h1⟩
    unfold P_tree_Check_L15
    refine ok_ite (fun hlt => ?_) fun hge => ok_some ⟨(), rfl, trivial⟩
    refine ok_ck ⟨h0, hlt⟩ (ok_lv (ok_lv (ok_f ?_ (ok_ar' (by omega) fun x ex => ok_some ⟨⟨by omega, by omega⟩, by omega⟩))))
    rw [h.gtU h0 (by omega)]; simp; omega
  · refine ok_lp (fun y => 0 ≤ y ∧ y ≤ n) (fun y => ((n : Int) - y).toNat) ⟨by omega, by omega⟩ (by omega) ?_
    rintro y ⟨h0, h1⟩
    unfold P_tree_Check_L21
    refine ok_ite (fun hlt => ?_) fun hge => ok_some ⟨(), rfl, trivial⟩
    have := h.gtL h0 (by omega : y < n)
    refine ok_ck ⟨h0, hlt⟩ (ok_lv (ok_lv (ok_f (by simp; omega) (ok_ar' (by omega) fun x ex => ok_some ⟨⟨by omega, by omega⟩, by omega⟩))))
  · refine ok_lp (fun y => -1 ≤ y ∧ y ≤ b) (fun y => ((b : Int) - y).toNat) ⟨by omega, by omega⟩ (by omega) ?_
    rintro y ⟨h0, h1⟩
    unfold P_tree_Check_L27
    refine ok_ite (fun hlt => ?_) fun hge => ok_some ⟨(), rfl, trivial⟩
    have hf := h.fan h0 (by omega : y < b)
    refine ok_bd (Kids_ok t y (by omega) (by omega)) ?_
    rintro ⟨k1, k2⟩ ⟨e1, e2⟩
    simp only at e1 e2
    rw [← e1, ← e2] at hf
    refine ok_ar' (by simp only; omega) fun x ex => ?_
    simp only at ex
    refine ok_f (by omega) (ok_lv (ok_f (by simp; omega) (ok_ar' (by omega) fun x ex => ok_some ⟨⟨by omega, by omega⟩, by omega⟩)))
end Go.Proofs.Ytnooiajahmichaa.X
