/- The law FloorApart, plain. -/
import Derived.Test.YtnooiajahmichaaDoorQB
namespace Go.Proofs.YtnooiajahmichaaDoor.X
open Go Go.RowKit
set_option linter.unusedVariables false
theorem small_ok {L : List Int} (hL : Strm L) {k : Int} (hk : Few (k + 20000)) (hk0 : 0 ≤ k) : Ok (P_maskkeep4_small (T_maskmake_Stream.mk L k)) (fun r => ∃ ins flops gates outs, PlacedN r.1 r.2.1 ins flops gates outs ∧ Lib8 r.2.1 ∧ (1 ≤ ins ∧ ins ≤ 3) ∧ (0 ≤ flops ∧ flops ≤ 3) ∧ (0 ≤ gates ∧ gates ≤ 8) ∧ (1 ≤ outs ∧ outs ≤ 3) ∧ k ≤ r.2.2 ∧ r.2.2 ≤ k + 6000) := by
  unfold P_maskkeep4_small
  refine ok_bd (LayLib_ok hL (by omega) hk0) ?_
  rintro ⟨l, q⟩ ⟨hl, q0, q1⟩
  simp only at hl q0 q1
  refine ok_bd (hL.range (by simp only; omega) (by omega) (by omega) (by omega)) ?_
  rintro ⟨ins, q2⟩ ⟨i0, i1, rfl⟩
  refine ok_bd (hL.next (by simp only; omega) (by omega)) ?_
  rintro ⟨fl, q3⟩ ⟨f0, f1, -, rfl⟩
  have f1 := f1 (by omega)
  refine ok_bd (hL.next (by simp only; omega) (by omega)) ?_
  rintro ⟨gs, q4⟩ ⟨g0, g1, -, rfl⟩
  have g1 := g1 (by omega)
  refine ok_bd (hL.range (by simp only; omega) (by omega) (by omega) (by omega)) ?_
  rintro ⟨outs, q5⟩ ⟨o0, o1, rfl⟩
  simp only at i0 i1 f0 f1 g0 g1 o0 o1
  refine ok_bd (Placed_ok hL (by simp only; omega) (by simp only; omega) hl (by simp only; omega) (by simp only; omega) (by simp only; omega) (by simp only; omega)) ?_
  rintro ⟨n, q6⟩ ⟨hn, a0, a1⟩
  simp only at hn a0 a1
  exact ok_some ⟨ins, fl, gs, outs, hn, hl, by omega, by omega, by omega, by omega, by simp only; omega, by simp only; omega⟩
/-- Where a pin lies. -/
def pinAt (c : T_api_Cell) (s : T_floor_Site) (k : Int) : T_floor_Point :=
  if k < c.Ins then ⟨4 + 4 * s.At + 2 * k, 4 + 4 * s.Row⟩ else ⟨4 + 4 * s.At + 4 * c.Area - 2, 4 + 4 * s.Row + 2⟩
theorem Pin_ok {c : T_api_Cell} {s : T_floor_Site} {k : Int} (hs : 0 ≤ s.At ∧ s.At ≤ 1000 ∧ 0 ≤ s.Row ∧ s.Row ≤ 1000) (hk : 0 ≤ k ∧ k ≤ c.Ins) (hc : c.Ins ≤ 1000) (ha : 0 ≤ c.Area ∧ c.Area ≤ 1000) : Ok (P_floor_Pin c s k) (fun r => r = pinAt c s k) := by
  unfold P_floor_Pin pinAt
  (repeat' (with_reducible first | refine ok_ck ?_ ?_ | refine ok_ar ?_ ?_ | refine ok_lv ?_ | refine ok_bd_some ?_ | refine ok_bd_ck ?_ ?_ | refine ok_bd_ar ?_ ?_ | refine ok_bd_lv ?_ | refine ok_bs_inl ?_ | refine ok_bs_inr ?_ | refine ok_ite (fun _ => ?_) (fun _ => ?_) | refine ok_bd_ite (fun _ => ?_) (fun _ => ?_) | refine ok_bs_ite (fun _ => ?_) (fun _ => ?_) | refine ok_bs_ck ?_ ?_ | refine ok_bs_ar ?_ ?_ | refine ok_bs_lv ?_ | refine ok_bd_bd ?_ | refine ok_bd_gd (fun _ => ?_) (fun _ => ?_)))
  all_goals first | omega | skip
  · rename_i h; rw [if_pos h]; exact ok_some rfl
  · rename_i h h2; rw [if_neg h]; exact ok_some rfl
/-- The place of a cell, as its pins see it. -/
def Box (c : T_api_Cell) (s : T_floor_Site) (q : T_floor_Point) : Prop := 4 + 4 * s.At ≤ q.X ∧ q.X ≤ 4 + 4 * (s.At + c.Area) - 2 ∧ 4 + 4 * s.Row ≤ q.Y ∧ q.Y ≤ 4 + 4 * s.Row + 2
theorem pin_box {c : T_api_Cell} {s : T_floor_Site} {k : Int} (hk : 0 ≤ k ∧ k ≤ c.Ins) (h1 : 1 ≤ c.Area) (hc : c.Ins ≤ 2 * c.Area) : Box c s (pinAt c s k) := by
  unfold Box pinAt
  split
  · simp only; omega
  · simp only; omega
theorem floors_ok : P_maskkeep4_floors = some true := by decide +kernel
theorem FloorApart_ok {L : List Int} (hL : Strm L) : Ok (P_maskkeep4_FloorApart L) (fun r => r = true) := by
  unfold P_maskkeep4_FloorApart
  refine ok_bd (small_ok hL (by omega) (by omega)) ?_
  rintro ⟨n, l, q⟩ ⟨ins, flops, gates, outs, hn, hl, hi, hf, hg, ho, q0, q1⟩
  simp only at hn hl q0 q1
  refine ok_bd (Chip_ok hL (by simp only; omega) (by simp only; omega) hl hn (by omega) (by omega) (by omega) (by omega)) ?_
  rintro ⟨c, q2⟩ ⟨⟨areas, hc⟩, -, -⟩
  simp only at hc
  dsimp only
  refine ok_bd (R := fun r => r = true) ⟨true, floors_ok, rfl⟩ ?_
  rintro _ rfl
  have hst := hc.stand
  have hsl := hst.len
  have hfew := hc.few
  have hw := hc.wide
  have hgl := hn.gateL
  have h8 := hl.len
  refine ok_lv' fun x36 e36 => ok_f (by rw [e36]; simp; omega) (ok_bs1 (R := fun _ => True) ?_ fun _ _ => ok_some rfl)
  refine ok_lp (fun s => 0 ≤ s.2 ∧ s.2 ≤ gates ∧ s.1.length ≤ 4 * s.2 ∧ All (fun _ p => ∃ j, 0 ≤ j ∧ j < s.2 ∧ Box (gt l (gt n.Gates j).Cell) (gt c.Sites j) p) s.1) (fun s => (gates - s.2).toNat) ⟨by simp, by simp only; omega, by simp, All.nil⟩ (by simp only; omega) ?_
  rintro ⟨all, i⟩ ⟨i0, i1, i2, i3⟩
  simp only at i0 i1 i2 i3
  unfold P_maskkeep4_FloorApart_L8
  dsimp only
  refine ok_ite (fun hlt => ?_) fun hge => ok_some ⟨(), rfl, trivial⟩
  refine ok_ck ⟨i0, hlt⟩ (ok_lv' fun g eg => ?_)
  have hg1 := (hn.gate i ⟨i0, hlt⟩).1
  rw [← eg] at hg1
  have hcell := hl.area (i := g.Cell) ⟨hg1.1, by omega⟩
  have hins := hl.ins (i := g.Cell) hg1
  have hsite := hst.site i ⟨i0, by omega⟩
  have har := hc.gates i ⟨i0, hlt⟩
  rw [← eg] at har
  have hrows := hc.rows
  refine ok_ck ⟨hg1.1, by omega⟩ (ok_lv (ok_ar (by omega) ?_))
  refine ok_bs1 (R := fun r => r.length ≤ 4 * (i + 1) ∧ All (fun _ p => ∃ j, 0 ≤ j ∧ j < i + 1 ∧ Box (gt l (gt n.Gates j).Cell) (gt c.Sites j) p) r) ?_ ?_
  · refine ok_lp (fun s => 0 ≤ s.2 ∧ s.2 ≤ (gt l g.Cell).Ins + 1 ∧ s.1.length ≤ 4 * i + s.2 ∧ All (fun _ p => (∃ j, 0 ≤ j ∧ j < i ∧ Box (gt l (gt n.Gates j).Cell) (gt c.Sites j) p) ∨ ∃ k, 0 ≤ k ∧ k < s.2 ∧ p = pinAt (gt l g.Cell) (gt c.Sites i) k) s.1) (fun s => ((gt l g.Cell).Ins + 1 - s.2).toNat) ⟨by simp, by simp only; omega, by simp only; omega, i3.mono fun _ _ _ h => .inl h⟩ (by simp only; omega) ?_
    rintro ⟨al, k⟩ ⟨k0, k1, k2, k3⟩
    simp only at k0 k1 k2 k3
    unfold P_maskkeep4_FloorApart_L11
    dsimp only
    refine ok_ite (fun hlt2 => ?_) fun hge => ok_some ⟨al, rfl, by omega, fun i' hi' => ?_⟩
    · refine ok_ck ⟨hg1.1, by omega⟩ (ok_lv (ok_ck ⟨i0, by omega⟩ (ok_lv (ok_bd (Pin_ok (by omega) (by omega) (by omega) (by omega)) ?_))))
      rintro p hp
      have hb := pin_box (c := gt l g.Cell) (s := gt c.Sites i) (k := k) ⟨k0, by omega⟩ hcell.1 hcell.2.2
      rw [← hp] at hb
      refine ok_bs1 (R := fun _ => True) ?_ fun _ _ => ok_lv (ok_ck ?_ (ok_ar (by omega) (ok_some ⟨⟨by simp only; omega, by simp only; omega, by simp only [List.length_append, List.length_singleton]; omega, All.snoc (k3.mono fun _ _ _ h => ?_) (.inr ⟨k, k0, by simp only; omega, hp⟩)⟩, by simp only; omega⟩)))
      · refine ok_lp (fun y => 0 ≤ y ∧ y ≤ al.length) (fun y => ((al.length : Int) - y).toNat) ⟨by omega, by omega⟩ (by omega) ?_
        rintro y ⟨y0, y1⟩
        unfold P_maskkeep4_FloorApart_L15
        refine ok_ite (fun hlt3 => ?_) fun hge => ok_some ⟨(), rfl, trivial⟩
        refine ok_ck ⟨y0, hlt3⟩ (ok_lv' fun z ez => ?_)
        have hz := k3 y ⟨y0, hlt3⟩
        rw [← ez] at hz
        have far : (z.X + 2 ≤ p.X ∨ p.X + 2 ≤ z.X ∨ z.Y + 2 ≤ p.Y ∨ p.Y + 2 ≤ z.Y) ∧ -100000 ≤ z.X ∧ z.X ≤ 100000 ∧ -100000 ≤ z.Y ∧ z.Y ≤ 100000 := by
          unfold Box at hb
          rcases hz with ⟨j, j0, j1, hj⟩ | ⟨k', h0, h1, hk'⟩
          · have ap := hst.apart j i j0 j1 (by omega)
            have sj := hst.site j ⟨j0, by omega⟩
            have aj := hc.gates j ⟨j0, by omega⟩
            unfold Box at hj
            omega
          · rw [hk', hp]
            unfold pinAt
            split <;> split <;> simp only <;> omega
        unfold Box at hb
        refine ok_ar (by omega) (ok_ar (by omega) (ok_ar (by omega) (ok_ar (by omega) (ok_lv (ok_f (by omega) (ok_ar (by omega) (ok_some ⟨⟨by omega, by omega⟩, by omega⟩)))))))
      · simp only [List.length_append, List.length_singleton]; omega
      · rcases h with h | ⟨k', h0, h1, h2⟩
        · exact .inl h
        · exact .inr ⟨k', h0, by simp only; omega, h2⟩
    · rcases k3 i' hi' with ⟨j, j0, j1, hj⟩ | ⟨k', h0, h1, h2⟩
      · exact ⟨j, j0, by omega, hj⟩
      · refine ⟨i, i0, by omega, ?_⟩
        rw [← eg, h2]
        exact pin_box ⟨h0, by omega⟩ hcell.1 hcell.2.2
  · rintro al ⟨a1, a2⟩
    exact ok_ar (by omega) (ok_some ⟨⟨by simp only; omega, by simp only; omega, a1, a2⟩, by simp only; omega⟩)
end Go.Proofs.YtnooiajahmichaaDoor.X
