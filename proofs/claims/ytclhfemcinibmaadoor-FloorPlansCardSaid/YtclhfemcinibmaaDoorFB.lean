/- floor.Plan of what Placed returns. Plain. -/
import Derived.Test.YtclhfemcinibmaaDoorFA
namespace Go.Proofs.YtclhfemcinibmaaDoor.X
open Go Go.RowKit
set_option linter.unusedVariables false
set_option linter.unusedSimpArgs false
set_option linter.unusedSectionVars false
theorem sum_ok {xa : List Int} (ha : All (fun _ x => 1 ≤ x ∧ x ≤ 3) xa) (hl : xa.length ≤ 100) {x : Int} (hx : 0 ≤ x ∧ x ≤ 100) : Ok (lp (P_floor_Plan_L8 xa) fuel (x, 0)) (fun r => x ≤ r ∧ r ≤ x + 3 * xa.length) := by
  refine ok_lp (fun s => 0 ≤ s.2 ∧ s.2 ≤ xa.length ∧ x ≤ s.1 ∧ s.1 ≤ x + 3 * s.2) (fun s => ((xa.length : Int) - s.2).toNat) ⟨by simp, by simp only; omega, by simp, by simp⟩ (by simp only; omega) ?_
  rintro ⟨v, y⟩ ⟨y0, y1, y2, y3⟩
  simp only at y0 y1 y2 y3
  unfold P_floor_Plan_L8
  dsimp only
  refine ok_ite (fun hlt => ?_) fun hge => ok_some ⟨by omega, by omega⟩
  have q := ha y ⟨y0, hlt⟩
  simp only at q
  exact ok_ck ⟨y0, hlt⟩ (ok_lv (ok_ar (by omega) (ok_ar (by omega) (ok_some ⟨⟨by simp only; omega, by simp only; omega, by simp only; omega, by simp only; omega⟩, by simp only; omega⟩))))
theorem most_ok {l : List T_api_Cell} (h : Lib8 l) : Ok (lp (P_floor_Plan_L13 l) fuel (1, 0)) (fun r => 1 ≤ r ∧ r ≤ 3) := by
  have h8 := h.len
  refine ok_lp (fun s => 0 ≤ s.2 ∧ s.2 ≤ 8 ∧ 1 ≤ s.1 ∧ s.1 ≤ 3) (fun s => (8 - s.2).toNat) ⟨by simp, by simp, by simp, by simp⟩ (by simp only; omega) ?_
  rintro ⟨v, y⟩ ⟨y0, y1, y2, y3⟩
  simp only at y0 y1 y2 y3
  unfold P_floor_Plan_L13
  dsimp only
  refine ok_ite (fun hlt => ?_) fun hge => ok_some ⟨by omega, by omega⟩
  have q := h.num (i := y) ⟨y0, by omega⟩
  exact ok_ck ⟨y0, hlt⟩ (ok_lv (ok_lv' fun m em => ok_ar (by omega) (ok_some ⟨⟨by simp only; omega, by simp only; omega, by simp only; omega, by simp only; omega⟩, by simp only; omega⟩)))
/-- What floor.Names returns: inputs, outputs, a clock. -/
def NameP (ins outs : Int) (i : Int) (p : T_floor_Port) : Prop := (i < ins ∧ p.Name = nm 105 i ∧ p.Out = false) ∨ (ins ≤ i ∧ i < ins + outs ∧ p.Name = nm 111 (i - ins) ∧ p.Out = true) ∨ (ins + outs ≤ i ∧ i < ins + outs + 1 ∧ p.Name = ⟨#[]⟩ ∧ p.Out = false)
section
variable {n : T_api_Netlist} {l : List T_api_Cell} {ins flops gates outs : Int} (hl : Lib8 l) (h : PlacedN n l ins flops gates outs) (hi : 1 ≤ ins ∧ ins ≤ 9) (hf : 0 ≤ flops ∧ flops < 12) (hg : 0 ≤ gates ∧ gates < 60) (ho : 1 ≤ outs ∧ outs ≤ 9)
include hl
theorem area_ok {i : Int} (hi : 0 ≤ i ∧ i < 8) : Ok (P_floor_area l i) (fun r => 1 ≤ r ∧ r ≤ 3) := by
  have h8 := hl.len
  have q := hl.num hi
  unfold P_floor_area
  exact ok_lv (ok_f (by simp only [Bool.or_eq_true, decide_eq_true_eq]; omega) (ok_ck ⟨hi.1, by omega⟩ (ok_lv (ok_some ⟨q.2.1, q.2.2.1⟩))))
include h hi hf hg ho
theorem Areas_ok : Ok (P_floor_Areas n l) (fun r => (r.length : Int) = gates + flops ∧ All (fun _ x => 1 ≤ x ∧ x ≤ 3) r) := by
  have b := h.flopL
  have c := h.gateL
  unfold P_floor_Areas
  refine ok_bd (R := fun r => (r.length : Int) = gates ∧ All (fun _ x => 1 ≤ x ∧ x ≤ 3) r) ?_ ?_
  · refine ok_lp (fun s => 0 ≤ s.2 ∧ s.2 ≤ gates ∧ (s.1.length : Int) = s.2 ∧ All (fun _ x => 1 ≤ x ∧ x ≤ 3) s.1) (fun s => (gates - s.2).toNat) ⟨by simp, by simp only; omega, by simp, All.nil⟩ (by simp only; omega) ?_
    rintro ⟨xs, y⟩ ⟨y0, y1, y2, y3⟩
    simp only at y0 y1 y2 y3
    unfold P_floor_Areas_L3
    dsimp only
    refine ok_ite (fun hlt => ?_) fun hge => ok_some ⟨by omega, y3⟩
    obtain ⟨q1, -⟩ := h.gate y ⟨y0, hlt⟩
    refine ok_ck ⟨y0, hlt⟩ (ok_lv (ok_bd (area_ok hl ⟨by omega, by omega⟩) fun r hr => ok_lv (ok_ck ?_ (ok_ar (by omega) (ok_some ⟨⟨by simp only; omega, by simp only; omega, by simp only [List.length_append, List.length_singleton]; omega, y3.snoc hr⟩, by simp only; omega⟩)))))
    simp only [apOk, List.length_append, List.length_singleton]; omega
  rintro xa ⟨a1, a2⟩
  refine ok_bd (R := fun r => (r.length : Int) = gates + flops ∧ All (fun _ x => 1 ≤ x ∧ x ≤ 3) r) ?_ fun r hr => ok_some hr
  refine ok_lp (fun s => 0 ≤ s.2 ∧ s.2 ≤ flops ∧ (s.1.length : Int) = gates + s.2 ∧ All (fun _ x => 1 ≤ x ∧ x ≤ 3) s.1) (fun s => (flops - s.2).toNat) ⟨by simp, by simp only; omega, by simp only; omega, a2⟩ (by simp only; omega) ?_
  rintro ⟨xs, y⟩ ⟨y0, y1, y2, y3⟩
  simp only at y0 y1 y2 y3
  unfold P_floor_Areas_L8
  dsimp only
  refine ok_ite (fun hlt => ?_) fun hge => ok_some ⟨by omega, y3⟩
  obtain ⟨-, -, q2⟩ := h.flop y ⟨y0, hlt⟩
  refine ok_ck ⟨y0, hlt⟩ (ok_lv (ok_bd (area_ok hl ⟨by omega, by omega⟩) fun r hr => ok_lv (ok_ck ?_ (ok_ar (by omega) (ok_some ⟨⟨by simp only; omega, by simp only; omega, by simp only [List.length_append, List.length_singleton]; omega, y3.snoc hr⟩, by simp only; omega⟩)))))
  simp only [apOk, List.length_append, List.length_singleton]; omega
theorem FNames_ok : Ok (P_floor_Names n) (fun r => ins + outs ≤ r.length ∧ (r.length : Int) ≤ ins + outs + 1 ∧ All (NameP ins outs) r) := by
  have a := h.inL
  have b := h.flopL
  have e := h.outL
  unfold P_floor_Names
  refine ok_bd (R := fun r => (r.length : Int) = ins ∧ All (NameP ins outs) r) ?_ ?_
  · refine ok_lp (fun s => 0 ≤ s.2 ∧ s.2 ≤ ins ∧ (s.1.length : Int) = s.2 ∧ All (NameP ins outs) s.1) (fun s => (ins - s.2).toNat) ⟨by simp, by simp only; omega, by simp, All.nil⟩ (by simp only; omega) ?_
    rintro ⟨xs, y⟩ ⟨y0, y1, y2, y3⟩
    simp only at y0 y1 y2 y3
    unfold P_floor_Names_L3
    dsimp only
    refine ok_ite (fun hlt => ?_) fun hge => ok_some ⟨by omega, y3⟩
    have q := h.inN y ⟨y0, hlt⟩
    simp only at q
    refine ok_ck ⟨y0, hlt⟩ (ok_lv (ok_lv (ok_ck ?_ (ok_ar (by omega) (ok_some ⟨⟨by simp only; omega, by simp only; omega, by simp only [List.length_append, List.length_singleton]; omega, y3.snoc (.inl ⟨by omega, by simp only; rw [q, y2], rfl⟩)⟩, by simp only; omega⟩)))))
    simp only [apOk, List.length_append, List.length_singleton]; omega
  rintro xa ⟨a1, a2⟩
  refine ok_bd (R := fun r => (r.length : Int) = ins + outs ∧ All (NameP ins outs) r) ?_ ?_
  · refine ok_lp (fun s => 0 ≤ s.2 ∧ s.2 ≤ outs ∧ (s.1.length : Int) = ins + s.2 ∧ All (NameP ins outs) s.1) (fun s => (outs - s.2).toNat) ⟨by simp, by simp only; omega, by simp only; omega, a2⟩ (by simp only; omega) ?_
    rintro ⟨xs, y⟩ ⟨y0, y1, y2, y3⟩
    simp only at y0 y1 y2 y3
    unfold P_floor_Names_L8
    dsimp only
    refine ok_ite (fun hlt => ?_) fun hge => ok_some ⟨by omega, y3⟩
    have q := h.outN y ⟨y0, hlt⟩
    simp only at q
    refine ok_ck ⟨y0, hlt⟩ (ok_lv (ok_lv (ok_ck ?_ (ok_ar (by omega) (ok_some ⟨⟨by simp only; omega, by simp only; omega, by simp only [List.length_append, List.length_singleton]; omega, y3.snoc (.inr (.inl ⟨by omega, by omega, by simp only; rw [q, y2, show ins + y - ins = y by omega], rfl⟩))⟩, by simp only; omega⟩)))))
    simp only [apOk, List.length_append, List.length_singleton]; omega
  rintro bs ⟨b1, b2⟩
  refine ok_bd (R := fun r => ins + outs ≤ r.length ∧ (r.length : Int) ≤ ins + outs + 1 ∧ All (NameP ins outs) r) ?_ fun r hr => ok_some hr
  refine ok_ite (fun _ => ok_lv (ok_ck ?_ (ok_some ⟨?_, ?_, b2.snoc (.inr (.inr ⟨by omega, by omega, rfl, rfl⟩))⟩))) fun _ => ok_some ⟨by omega, by omega, b2⟩
  · simp only [apOk, List.length_append, List.length_singleton]; omega
  · simp only [List.length_append, List.length_singleton]; omega
  · simp only [List.length_append, List.length_singleton]; omega
end
theorem step_lt {P n j i : Int} (hn : 0 < n) (hP : 3 * n ≤ P) (hji : j < i) : P * j / n + 3 ≤ P * i / n := by
  have h1 := Int.mul_le_mul_of_nonneg_left (show j + 1 ≤ i by omega) (show 0 ≤ P by omega)
  rw [Int.mul_add, Int.mul_one] at h1
  have h2 := Int.ediv_le_ediv hn (show P * j + 3 * n ≤ P * i by omega)
  rw [Int.add_mul_ediv_right _ _ (by omega)] at h2
  exact h2
theorem step_hi {P n i : Int} (hn : 0 < n) (hP : 3 * n ≤ P) (hi : i < n) : P * i / n + 3 ≤ P := by
  have := step_lt hn hP hi
  rwa [Int.mul_ediv_cancel _ (by omega)] at this
/-- Where the border's t-th step stands. -/
def PortAt (W H t X Y : Int) : Prop := (t < W ∧ X = t ∧ Y = 0) ∨ (W ≤ t ∧ t < W + H - 1 ∧ X = W - 1 ∧ Y = t - W + 1) ∨ (W + H - 1 ≤ t ∧ t < 2 * W + H - 2 ∧ X = 2 * W + H - 3 - t ∧ Y = H - 1) ∨ (2 * W + H - 2 ≤ t ∧ X = 0 ∧ Y = 2 * (W + H) - 4 - t)
theorem PortAt.apart {W H t u X Y X' Y' : Int} (hW : 4 ≤ W) (hH : 4 ≤ H) (h0 : 0 ≤ u) (h : u + 3 ≤ t) (h1 : t + 3 ≤ 2 * (W + H) - 4) (p : PortAt W H t X Y) (q : PortAt W H u X' Y') : 2 ≤ max (max (max (X - X') (X' - X)) (Y - Y')) (Y' - Y) := by
  rcases p with p | p | p | p <;> rcases q with q | q | q | q <;> omega
theorem border_ok {f : T_floor_Floor} (hp : f.Ports = []) (hr : 1 ≤ f.Rows ∧ f.Rows ≤ 20) (hs : 4 ≤ f.Sites ∧ f.Sites ≤ 40) {ns : List T_floor_Port} (hn : 1 ≤ ns.length ∧ ns.length ≤ 19) :
    Ok (P_floor_border_2 f ns) (fun r => r.1 = true ∧ r.2.length = ns.length ∧ All (fun i p => p.Name = (gt ns i).Name ∧ p.Out = (gt ns i).Out ∧ PortAt (4 * f.Sites + 8) (4 * f.Rows + 8) ((2 * (4 * f.Sites + 8 + (4 * f.Rows + 8)) - 4) * i / ns.length) p.X p.Y) r.2) := by
  unfold P_floor_border_2
  refine ok_bd (R := fun r => r = (4 * f.Sites + 8, 4 * f.Rows + 8)) ?_ ?_
  · unfold P_floor_Size
    exact ok_ar (by omega) (ok_ar (by omega) (ok_ar (by omega) (ok_ar (by omega) (ok_some rfl))))
  rintro _ rfl
  dsimp only
  generalize hW : 4 * f.Sites + 8 = W
  generalize hH : 4 * f.Rows + 8 = H
  generalize hP : 2 * (W + H) - 4 = P
  refine ok_ar (by omega) (ok_ar (by omega) (ok_ar (by omega) ?_))
  rw [hP]
  refine ok_ck (fun _ => by omega) (ok_lv (ok_lv (ok_f (by simp only [Bool.or_eq_true, decide_eq_true_eq]; omega) (ok_bd (R := fun r => r.length = ns.length ∧ All (fun i p => p.Name = (gt ns i).Name ∧ p.Out = (gt ns i).Out ∧ PortAt W H (P * i / ns.length) p.X p.Y) r) ?_ fun r hr => ok_some ⟨rfl, hr⟩))))
  rw [hp]
  refine ok_lp (fun s => 0 ≤ s.1 ∧ s.1 ≤ ns.length ∧ (s.2.length : Int) = s.1 ∧ All (fun i p => p.Name = (gt ns i).Name ∧ p.Out = (gt ns i).Out ∧ PortAt W H (P * i / ns.length) p.X p.Y) s.2) (fun s => ((ns.length : Int) - s.1).toNat) ⟨by simp, by simp only; omega, by simp, All.nil⟩ (by simp only; omega) ?_
  rintro ⟨y, ps⟩ ⟨y0, y1, y2, y3⟩
  simp only at y0 y1 y2 y3
  unfold P_floor_border_2_L6
  dsimp only
  refine ok_ite (fun hlt => ?_) fun hge => ok_some ⟨by omega, y3⟩
  have m0 : 0 ≤ P * y := Int.mul_nonneg (by omega) y0
  have m1 : P * y ≤ 508 * 19 := Int.mul_le_mul (by omega) (by omega) y0 (by omega)
  have d0 : 0 ≤ P * y / (ns.length : Int) := Int.ediv_nonneg m0 (by omega)
  have d1 := step_hi (P := P) (n := ns.length) (i := y) (by omega) (by omega) hlt
  refine ok_ck ⟨y0, hlt⟩ (ok_lv (ok_ar (by omega) (ok_ck (by omega) ?_)))
  rw [Int.tdiv_eq_ediv_of_nonneg m0]
  generalize ht : P * y / (ns.length : Int) = t at *
  refine ok_ar (by omega) (ok_bd (R := fun o => PortAt W H t o.1 o.2) ?_ ?_)
  · refine ok_ite (fun c => ok_some (.inl ⟨c, rfl, rfl⟩)) fun c => ok_ar (by omega) (ok_ar (by omega) (ok_bd (R := fun o => PortAt W H t o.1 o.2) ?_ fun o ho => ok_some ho))
    refine ok_ite (fun c2 => ok_ar (by omega) (ok_ar (by omega) (ok_ar (by omega) (ok_some (.inr (.inl ⟨by omega, by omega, rfl, rfl⟩)))))) fun c2 => ok_ar (by omega) (ok_ar (by omega) (ok_ar (by omega) (ok_bd (R := fun o => PortAt W H t o.1 o.2) ?_ fun o ho => ok_some ho)))
    refine ok_ite (fun c3 => ok_ar (by omega) (ok_ar (by omega) (ok_ar (by omega) (ok_ar (by omega) (ok_ar (by omega) (ok_some (.inr (.inr (.inl ⟨by omega, by omega, rfl, rfl⟩))))))))) fun c3 => ok_ar (by omega) (ok_some (.inr (.inr (.inr ⟨by omega, rfl, by simp only; omega⟩))))
  rintro ⟨X, Y⟩ hXY
  refine ok_lv (ok_ck ?_ (ok_ar (by omega) (ok_some ⟨⟨by simp only; omega, by simp only; omega, by simp only [List.length_append, List.length_singleton]; omega, y3.snoc ⟨by simp only; rw [y2], by simp only; rw [y2], by rw [y2, ht]; exact hXY⟩⟩, by simp only; omega⟩)))
  simp only [apOk, List.length_append, List.length_singleton]; omega
/-- A floor that Plan returns. -/
structure FloorOk (f : T_floor_Floor) (L need most : Int) (ns : List T_floor_Port) : Prop where
  rows : 1 ≤ f.Rows ∧ f.Rows ≤ 20
  sites : 4 ≤ f.Sites ∧ f.Sites ≤ 40
  layers : f.Layers = L
  blocks : f.Blocks = []
  walls : f.Walls = []
  room : 2 * need ≤ f.Rows * f.Sites ∧ need + f.Rows * (most - 1) ≤ f.Rows * f.Sites
  portsL : f.Ports.length = ns.length
  port : All (fun i p => p.Name = (gt ns i).Name ∧ p.Out = (gt ns i).Out ∧ PortAt (4 * f.Sites + 8) (4 * f.Rows + 8) ((2 * (4 * f.Sites + 8 + (4 * f.Rows + 8)) - 4) * i / ns.length) p.X p.Y) f.Ports
theorem rows_ok {L need most : Int} {ns : List T_floor_Port} (hn : 1 ≤ ns.length ∧ ns.length ≤ 19) (h1 : 0 ≤ need ∧ need ≤ 260) (h2 : 1 ≤ most ∧ most ≤ 3) :
    Ok (lp (P_floor_Plan_L19 L need most ns) fuel 1) (fun o => match o with | .inl _ => False | .inr r => r.2 = 0 ∧ FloorOk r.1 L need most ns) := by
  refine ok_lp (fun y => 1 ≤ y ∧ y ≤ 20) (fun y => (20 - y).toNat) ⟨by omega, by omega⟩ (by omega) ?_
  rintro y ⟨y0, y1⟩
  unfold P_floor_Plan_L19
  refine ok_t y1 (ok_bs (R := fun o => match o with | .inl _ => y < 20 | .inr r => r.2 = 0 ∧ FloorOk r.1 L need most ns) ?_ (fun _ hy => ok_ar (by omega) (ok_some ⟨⟨by omega, by simp only at hy; omega⟩, by simp only at hy; omega⟩)) fun r hr => ok_some hr)
  refine ok_ar (by omega) (ok_lv' fun x66 e66 => ok_lv' fun x67 e67 => ok_bd (R := fun s => 4 ≤ s ∧ s ≤ 40 ∧ (y = 20 → s = 40)) (ok_ite (fun c => ok_some ⟨by omega, by omega, fun _ => rfl⟩) fun c => ok_some ⟨by omega, by omega, fun c2 => absurd c2 c⟩) ?_)
  rintro s ⟨s0, s1, s2⟩
  have m0 : 0 ≤ y * s := Int.mul_nonneg (by omega) (by omega)
  have m1 : y * s ≤ 20 * 40 := Int.mul_le_mul (by omega) (by omega) (by omega) (by omega)
  have p0 : 0 ≤ y * (most - 1) := Int.mul_nonneg (by omega) (by omega)
  have p1 : y * (most - 1) ≤ 20 * 2 := Int.mul_le_mul (by omega) (by omega) (by omega) (by omega)
  refine ok_ar (by omega) (ok_ar (by omega) (ok_ar (by omega) (ok_ar (by omega) (ok_ar (by omega) (ok_lv' fun x86 e86 => ok_ite (fun c => ok_some ?_) fun c => ?_)))))
  · by_cases hy : y = 20
    · have := s2 hy
      subst hy this
      simp only; omega
    · simp only; omega
  refine ok_bd (border_ok (f := T_floor_Floor.mk y s L [] [] []) rfl ⟨y0, y1⟩ ⟨s0, s1⟩ hn) ?_
  rintro ⟨b, ps⟩ ⟨rfl, q1, q2⟩
  exact ok_t rfl (ok_some ⟨rfl, ⟨y0, y1⟩, ⟨s0, s1⟩, rfl, rfl, rfl, ⟨by simp only; omega, by simp only; omega⟩, q1, q2⟩)
section
variable {n : T_api_Netlist} {l : List T_api_Cell} {ins flops gates outs : Int} (hl : Lib8 l) (h : PlacedN n l ins flops gates outs) (hi : 1 ≤ ins ∧ ins ≤ 9) (hf : 0 ≤ flops ∧ flops < 12) (hg : 0 ≤ gates ∧ gates < 60) (ho : 1 ≤ outs ∧ outs ≤ 9)
include hl h hi hf hg ho
theorem Plan_ok {L : Int} (hL : 2 ≤ L ∧ L ≤ 6) {xa : List Int} {need most : Int} {ns : List T_floor_Port} (e1 : P_floor_Areas n l = some xa) (e2 : lp (P_floor_Plan_L8 xa) fuel (4 * (n.Flops.length : Int), 0) = some need) (e3 : lp (P_floor_Plan_L13 l) fuel (1, 0) = some most) (e4 : P_floor_Names n = some ns)
    (hn : 1 ≤ ns.length ∧ ns.length ≤ 19) (h1 : 0 ≤ need ∧ need ≤ 260) (h2 : 1 ≤ most ∧ most ≤ 3) : Ok (P_floor_Plan n l L) (fun r => r.2 = 0 ∧ FloorOk r.1 L need most ns) := by
  have b := h.flopL
  unfold P_floor_Plan
  refine ok_bd (CheckChip_ok hl h hi hf hg ho) ?_
  rintro _ rfl
  refine ok_f (by simp) (ok_bd (R := fun r => r = true) ?_ ?_)
  · unfold P_floor_within
    exact ok_lv (ok_some (by simp; omega))
  rintro _ rfl
  refine ok_f (by simp) (ok_ar (by omega) (ok_bd (R := fun r => r = xa) ⟨xa, e1, rfl⟩ ?_))
  rintro _ rfl
  refine ok_bd (R := fun r => r = need) ⟨need, e2, rfl⟩ ?_
  rintro _ rfl
  refine ok_bd (R := fun r => r = most) ⟨most, e3, rfl⟩ ?_
  rintro _ rfl
  refine ok_bd (R := fun r => r = ns) ⟨ns, e4, rfl⟩ ?_
  rintro _ rfl
  exact ok_bs (rows_ok hn h1 h2) (fun _ hx => hx.elim) fun r hr => ok_some hr
theorem Plan1_ok : Ok (P_floor_Plan n l 1) (fun r => r.2 = 2) := by
  unfold P_floor_Plan
  refine ok_bd (CheckChip_ok hl h hi hf hg ho) ?_
  rintro _ rfl
  refine ok_f (by simp) (ok_bd (R := fun r => r = false) ?_ ?_)
  · unfold P_floor_within
    exact ok_lv (ok_some (by decide))
  rintro _ rfl
  exact ok_t (by simp) (ok_some rfl)
end
end Go.Proofs.YtclhfemcinibmaaDoor.X
