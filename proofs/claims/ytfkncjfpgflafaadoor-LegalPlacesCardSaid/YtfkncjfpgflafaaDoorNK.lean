/- near: every cell in turn into the best room. Plain. -/
import Derived.Test.YtfkncjfpgflafaaDoorNJ
namespace Go.Proofs.YtfkncjfpgflafaaDoor.X
open Go Go.RowKit
set_option linter.unusedVariables false
set_option linter.unusedSimpArgs false
/-- What is wanted, and areas. -/
structure Wants (n : Nat) (want : List T_floor_Point) (area : List Int) : Prop where
  lw : want.length = n
  la : area.length = n
  few : n ≤ 30
  pt : ∀ i : Int, 0 ≤ i → i < n → (-10 ≤ (gt want i).X ∧ (gt want i).X ≤ 60) ∧ (-10 ≤ (gt want i).Y ∧ (gt want i).Y ≤ 60)
  ar : ∀ i : Int, 0 ≤ i → i < n → 1 ≤ gt area i ∧ gt area i ≤ 3
theorem best_ok {f : T_floor_Floor} (hf : FlN f) {n : Nat} {want : List T_floor_Point} {area : List Int} (hw : Wants n want area) {free : List T_legal_room} (hr : RoomsOk f free) (hl : free.length ≤ 1000) {c : Int} (c0 : 0 ≤ c) (c1 : c < n) :
    Ok (lp (P_legal_near_L15 want area c free) fuel ((-1), 0, 0, 0)) (fun r => r.1 < 0 ∨ (0 ≤ r.1 ∧ r.1 < free.length ∧ (gt free r.1).Span.From ≤ r.2 ∧ r.2 + gt area c ≤ (gt free r.1).Span.To)) := by
  have a := hf.R
  have b := hf.S
  have hp := hw.pt c c0 c1
  have ha := hw.ar c c0 c1
  have lw := hw.lw
  have la := hw.la
  refine ok_lp (fun s => 0 ≤ s.2.2.2 ∧ s.2.2.2 ≤ free.length ∧ (0 ≤ s.2.2.1 ∧ s.2.2.1 ≤ 20000) ∧ (s.1 < 0 ∨ (0 ≤ s.1 ∧ s.1 < free.length ∧ (gt free s.1).Span.From ≤ s.2.1 ∧ s.2.1 + gt area c ≤ (gt free s.1).Span.To))) (fun s => ((free.length : Int) - s.2.2.2).toNat)
    ⟨by simp, by simp only; omega, by simp, Or.inl (by simp)⟩ (by simp only; omega) ?_
  rintro ⟨be, at_, le, y⟩ ⟨y0, y1, l0, hb⟩
  simp only at y0 y1 l0 hb ⊢
  unfold P_legal_near_L15
  dsimp only
  refine ok_ite (fun hlt => ?_) fun hge => ok_some hb
  have g := hr.each y y0 hlt
  have g1 := g.lo; have g2 := g.ne; have g3 := g.hi; have g4 := g.row
  have ey : ∀ i : Int, i = y → gt free i = gt free y := fun i e => by rw [e]
  refine ok_bd (R := fun s => (0 ≤ s.2.2 ∧ s.2.2 ≤ 20000) ∧ (s.1 < 0 ∨ (0 ≤ s.1 ∧ s.1 < free.length ∧ (gt free s.1).Span.From ≤ s.2.1 ∧ s.2.1 + gt area c ≤ (gt free s.1).Span.To))) (ok_ck ⟨y0, hlt⟩ (ok_lv (ok_ar (by omega) (ok_ck ⟨c0, by omega⟩ (ok_lv (ok_ite (fun hs => ok_some ⟨l0, hb⟩) fun hs => ?_)))))) ?_
  · have td := tdiv4 (x := (gt want c).X - 4) (by omega) (by omega)
    refine ok_ck ⟨c0, by omega⟩ (ok_lv (ok_ar (by omega) (ok_ck (by decide) (ok_ar (by omega) (ok_lv (ok_ck ⟨c0, by omega⟩ (ok_lv (ok_ar (by omega) (ok_lv' fun x ex => ?_)))))))))
    refine ok_ar (by omega) (ok_ar (by omega) (ok_ck ⟨c0, by omega⟩ (ok_lv (ok_ar (by omega) (ok_bd (far_ok (by omega) (by omega)) ?_)))))
    rintro d1 ⟨d10, d11⟩
    refine ok_ar (by omega) (ok_ar (by omega) (ok_ck ⟨c0, by omega⟩ (ok_lv (ok_ar (by omega) (ok_bd (far_ok (by omega) (by omega)) ?_)))))
    rintro d2 ⟨d20, d21⟩
    refine ok_ar (by omega) (ok_lv (ok_bd (R := fun s => (0 ≤ s.2.2 ∧ s.2.2 ≤ 20000) ∧ (s.1 < 0 ∨ (0 ≤ s.1 ∧ s.1 < free.length ∧ (gt free s.1).Span.From ≤ s.2.1 ∧ s.2.1 + gt area c ≤ (gt free s.1).Span.To))) (ok_ite (fun _ => ok_some ⟨by simp only; omega, Or.inr ⟨y0, hlt, by simp only; omega, by simp only; omega⟩⟩) fun _ => ok_some ⟨l0, hb⟩) fun s hs => ok_some hs))
  rintro ⟨be', at', le'⟩ ⟨q1, q2⟩
  exact ok_ar (by omega) (ok_some ⟨⟨by simp only; omega, by simp only; omega, q1, q2⟩, by simp only; omega⟩)
end Go.Proofs.YtfkncjfpgflafaaDoor.X
