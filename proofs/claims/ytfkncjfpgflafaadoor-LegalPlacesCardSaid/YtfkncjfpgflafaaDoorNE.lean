/- floor.Check of a drawn floor without ports. Plain. -/
import Derived.Test.YtfkncjfpgflafaaDoorND
namespace Go.Proofs.YtfkncjfpgflafaaDoor.X
open Go Go.RowKit
set_option linter.unusedVariables false
set_option linter.unusedSimpArgs false
theorem FCheck0 {f : T_floor_Floor} (hf : FlN f) (hp : f.Ports = []) : Ok (P_floor_Check f) (fun r => r = 0) := by
  have a := hf.R
  have b := hf.S
  have c := hf.Ly
  have e1 := hf.blockL
  have e2 := hf.wallL
  unfold P_floor_Check
  refine fok_wi ⟨by omega, by omega⟩ (fok_gw rfl ⟨by omega, by omega⟩ (ok_lv (fok_gw rfl ⟨by omega, by omega⟩ (ok_lv (ok_f (by simp) (ok_lv (ok_lv (ok_f (by rw [hp]; simp only [Bool.or_eq_true, decide_eq_true_eq, List.length_nil]; omega) ?_))))))))
  refine ok_bs1 (R := fun _ => True) ?_ fun _ _ => ok_bd (Size_ok a b) ?_
  · refine ok_lp (fun y => 0 ≤ y ∧ y ≤ f.Blocks.length) (fun y => ((f.Blocks.length : Int) - y).toNat) ⟨by omega, by omega⟩ (by omega) ?_
    rintro y ⟨y0, y1⟩
    unfold P_floor_Check_L6
    refine ok_ite (fun hlt => ?_) fun hge => ok_some ⟨(), rfl, trivial⟩
    have g := hf.block y ⟨y0, hlt⟩
    have gx := g.x
    have gr := g.row
    exact ok_ck ⟨y0, hlt⟩ (ok_lv (ok_ar (by omega) (fok_wi ⟨by omega, by omega⟩ (ok_ck (fun _ => by omega) (ok_lv (fok_gw rfl ⟨by omega, by omega⟩ (ok_lv (ok_ck (fun _ => by omega) (ok_lv (fok_gw rfl ⟨by omega, by omega⟩ (ok_lv (ok_f (by simp) (ok_ar (by omega) (ok_some ⟨⟨by omega, by omega⟩, by omega⟩))))))))))))))
  rintro _ rfl
  refine ok_bs1 (R := fun _ => True) ?_ fun _ _ => ok_bs1 (R := fun _ => True) ?_ fun _ _ => ok_some rfl
  · refine ok_lp (fun y => 0 ≤ y ∧ y ≤ f.Walls.length) (fun y => ((f.Walls.length : Int) - y).toNat) ⟨by omega, by omega⟩ (by omega) ?_
    rintro y ⟨y0, y1⟩
    unfold P_floor_Check_L13
    refine ok_ite (fun hlt => ?_) fun hge => ok_some ⟨(), rfl, trivial⟩
    have g := hf.wall y ⟨y0, hlt⟩
    have gx := g.x
    have gy := g.y
    have gl := g.layer
    exact ok_ck ⟨y0, hlt⟩ (ok_lv (ok_ar (by omega) (fok_wi ⟨by omega, by omega⟩ (ok_ck (fun _ => by omega) (ok_lv (fok_gw rfl ⟨by omega, by omega⟩ (ok_lv (ok_ck (fun _ => by omega) (ok_lv (fok_gw rfl ⟨by omega, by omega⟩ (ok_lv (ok_ck (fun _ => by omega) (ok_lv (fok_gw rfl ⟨by omega, by omega⟩ (ok_lv (ok_ck (fun _ => by omega) (ok_lv (fok_gw rfl ⟨by omega, by omega⟩ (ok_lv (ok_f (by simp) (ok_ar (by omega) (ok_some ⟨⟨by omega, by omega⟩, by omega⟩))))))))))))))))))))))
  · refine ok_lp (fun y => y = 0) (fun y => 0) rfl (by decide) ?_
    rintro _ rfl
    unfold P_floor_Check_L19
    exact ok_f (by rw [hp]; simp) (ok_some ⟨(), rfl, trivial⟩)
end Go.Proofs.YtfkncjfpgflafaaDoor.X
