/- The job of a stream: delays and limits of a small netlist. Plain. -/
import Derived.Test.YtlolchgeedegdaaDoorTA
namespace Go.Proofs.YtlolchgeedegdaaDoor.X
open Go Go.RowKit
set_option linter.unusedVariables false
set_option linter.unusedSimpArgs false
set_option linter.unusedSectionVars false
/-- A window of delays. -/
structure WinN (m : Int) (w : T_tree_Window) : Prop where
  lo : 0 ≤ w.Lo
  le : w.Lo ≤ w.Hi
  hi : w.Hi ≤ m
theorem window_ok {L : List Int} (hL : Strm L) {k : Int} (hk : Few (k + 5)) (hk0 : 0 ≤ k) : Ok (P_maskmake_Stream_window (T_maskmake_Stream.mk L k) 6) (fun r => WinN 10 r.1 ∧ r.2 = k + 2) := by
  unfold P_maskmake_Stream_window
  refine ok_bd (hL.next (by omega) (by omega)) ?_
  rintro ⟨a, k1⟩ ⟨a0, a1, -, rfl⟩
  have a1 := a1 (by omega)
  refine ok_bd (hL.next (by omega) (by omega)) ?_
  rintro ⟨b, k2⟩ ⟨b0, b1, -, rfl⟩
  have b1 := b1 (by omega)
  simp only at a0 a1 b0 b1
  exact ok_ar (by omega) (ok_some ⟨⟨by simp only; omega, by simp only; omega, by simp only; omega⟩, by simp only; omega⟩)
/-- Delays of a netlist. -/
structure DelN (n : T_api_Netlist) (m : Int) (d : T_delay_Delays) : Prop where
  gL : d.Gates.length = n.Gates.length
  gW : All (fun i l => l.length = (gt n.Gates i).Ins.length ∧ All (fun _ w => WinN m w) l) d.Gates
  dL : d.Data.length = n.Flops.length
  dW : All (fun i l => (l.length : Int) = (if (gt n.Flops i).En = 1 then 1 else 2) ∧ All (fun _ w => WinN m w) l) d.Data
  oL : d.Outs.length = n.Outs.length
  oW : All (fun _ w => WinN m w) d.Outs
  cL : d.Clock.length = n.Flops.length
  cW : All (fun _ w => WinN m w) d.Clock
  lL : d.Launch.length = n.Flops.length
  lW : All (fun _ w => WinN m w) d.Launch
section
variable {n : T_api_Netlist} {l : List T_api_Cell} {ins flops gates outs : Int} (hl : Lib8 l) (h : PlacedN n l ins flops gates outs) (hi : 1 ≤ ins ∧ ins ≤ 3) (hf : 0 ≤ flops ∧ flops ≤ 3) (hg : 0 ≤ gates ∧ gates ≤ 8) (ho : 1 ≤ outs ∧ outs ≤ 3)
theorem PlacedN.insL (hl : Lib8 l) (h : PlacedN n l ins flops gates outs) {i : Int} (hi : 0 ≤ i ∧ i < gates) : (1 : Int) ≤ (gt n.Gates i).Ins.length ∧ ((gt n.Gates i).Ins.length : Int) ≤ 3 := by
  have a := h.gateL
  obtain ⟨q1, -, q3, -⟩ := h.gate i ⟨hi.1, by omega⟩
  have := hl.ins q1
  omega
include hl h hi hf hg ho
theorem Delays_ok {L : List Int} (hL : Strm L) {k : Int} (hk : Few (k + 1000)) (hk0 : 0 ≤ k) : Ok (P_maskmake_Stream_Delays (T_maskmake_Stream.mk L k) n 6) (fun r => DelN n 10 r.1 ∧ k ≤ r.2 ∧ r.2 ≤ k + 200) := by
  have a := h.gateL
  have b := h.flopL
  have c := h.outsL
  unfold P_maskmake_Stream_Delays
  refine ok_bd (R := fun r => (r.2.length : Int) = gates ∧ All (fun i l => l.length = (gt n.Gates i).Ins.length ∧ All (fun _ w => WinN 10 w) l) r.2 ∧ k ≤ r.1 ∧ r.1 ≤ k + 8 * gates) ?_ ?_
  · refine ok_lp (fun s => 0 ≤ s.1 ∧ s.1 ≤ gates ∧ (s.2.2.length : Int) = s.1 ∧ (k ≤ s.2.1 ∧ s.2.1 ≤ k + 8 * s.1) ∧ All (fun i l => l.length = (gt n.Gates i).Ins.length ∧ All (fun _ w => WinN 10 w) l) s.2.2) (fun s => (gates - s.1).toNat) ⟨by simp, by simp only; omega, by simp, by simp, All.nil⟩ (by simp only; omega) ?_
    rintro ⟨y, q, gs⟩ ⟨y0, y1, y2, y3, y4⟩
    simp only at y0 y1 y2 y3 y4
    unfold P_maskmake_Stream_Delays_L3
    dsimp only
    refine ok_ite (fun hlt => ?_) fun hge => ok_some ⟨by simp only; omega, y4, by simp only; omega, by simp only; omega⟩
    have hin := h.insL hl (i := y) ⟨y0, by omega⟩
    refine ok_ck ⟨y0, hlt⟩ (ok_lv (ok_bd (R := fun r => r.1.length = (gt n.Gates y).Ins.length ∧ All (fun _ w => WinN 10 w) r.1 ∧ q ≤ r.2 ∧ r.2 ≤ q + 8) ?_ ?_))
    · refine ok_lp (fun s => 0 ≤ s.2.1 ∧ s.2.1 ≤ (gt n.Gates y).Ins.length ∧ (s.1.length : Int) = s.2.1 ∧ s.2.2 = q + 2 * s.2.1 ∧ All (fun _ w => WinN 10 w) s.1) (fun s => (((gt n.Gates y).Ins.length : Int) - s.2.1).toNat) ⟨by simp, by simp only; omega, by simp, by simp, All.nil⟩ (by simp only; omega) ?_
      rintro ⟨xs, z, q2⟩ ⟨z0, z1, z2, z3, z4⟩
      simp only at z0 z1 z2 z3 z4
      subst z3
      unfold P_maskmake_Stream_Delays_L7
      dsimp only
      refine ok_ite (fun hlt => ok_bd (window_ok hL (by omega) (by omega)) ?_) fun hge => ok_some ⟨by simp only; omega, z4, by simp only; omega, by simp only; omega⟩
      rintro ⟨w, q3⟩ ⟨hw, rfl⟩
      refine ok_lv (ok_ck (by simp only [apOk, List.length_append, List.length_singleton]; omega) (ok_ar (by omega) (ok_some ⟨⟨by simp only; omega, by simp only; omega, by simp only [List.length_append, List.length_singleton]; omega, by simp only; omega, z4.snoc hw⟩, by simp only; omega⟩)))
    rintro ⟨xs, q2⟩ ⟨x1, x2, x3⟩
    simp only at x1 x2 x3
    refine ok_lv (ok_ck (by simp only [apOk, List.length_append, List.length_singleton]; omega) (ok_ar (by omega) (ok_some ⟨⟨by simp only; omega, by simp only; omega, by simp only [List.length_append, List.length_singleton]; omega, by simp only; omega, y4.snoc ⟨by simp only [y2]; exact x1, x2⟩⟩, by simp only; omega⟩)))
  rintro ⟨k1, G⟩ ⟨g1, g2, g3, g4⟩
  simp only at g1 g2 g3 g4
  refine ok_bd (R := fun r => ((r.2.1.length : Int) = flops ∧ (r.2.2.1.length : Int) = flops ∧ (r.2.2.2.length : Int) = flops) ∧ All (fun i l => (l.length : Int) = (if (gt n.Flops i).En = 1 then 1 else 2) ∧ All (fun _ w => WinN 10 w) l) r.2.1 ∧ All (fun _ w => WinN 10 w) r.2.2.1 ∧ All (fun _ w => WinN 10 w) r.2.2.2 ∧ k1 ≤ r.1 ∧ r.1 ≤ k1 + 8 * flops) ?_ ?_
  · refine ok_lp (fun s => 0 ≤ s.1 ∧ s.1 ≤ flops ∧ ((s.2.2.1.length : Int) = s.1 ∧ (s.2.2.2.1.length : Int) = s.1 ∧ (s.2.2.2.2.length : Int) = s.1) ∧ (k1 ≤ s.2.1 ∧ s.2.1 ≤ k1 + 8 * s.1) ∧ All (fun i l => (l.length : Int) = (if (gt n.Flops i).En = 1 then 1 else 2) ∧ All (fun _ w => WinN 10 w) l) s.2.2.1 ∧ All (fun _ w => WinN 10 w) s.2.2.2.1 ∧ All (fun _ w => WinN 10 w) s.2.2.2.2) (fun s => (flops - s.1).toNat) ⟨by simp, by simp only; omega, by simp, by simp, All.nil, All.nil, All.nil⟩ (by simp only; omega) ?_
    rintro ⟨y, q, ds, cs, ls⟩ ⟨y0, y1, y2, y3, y4, y5, y6⟩
    simp only at y0 y1 y2 y3 y4 y5 y6
    unfold P_maskmake_Stream_Delays_L13
    dsimp only
    refine ok_ite (fun hlt => ?_) fun hge => ok_some ⟨by simp only; omega, y4, y5, y6, by simp only; omega, by simp only; omega⟩
    refine ok_ck ⟨y0, hlt⟩ (ok_lv (ok_bd (window_ok hL (by omega) (by omega)) ?_))
    rintro ⟨w, q1⟩ ⟨hw, rfl⟩
    simp only at hw
    refine ok_bd (R := fun r => ((r.1.length : Int) = (if (gt n.Flops y).En = 1 then 1 else 2) ∧ All (fun _ w => WinN 10 w) r.1) ∧ q + 2 ≤ r.2 ∧ r.2 ≤ q + 4) ?_ ?_
    · refine ok_ite (fun he => ok_bd (window_ok hL (by simp only; omega) (by simp only; omega)) ?_) fun he => ok_some ⟨⟨?_, ?_⟩, by simp only; omega, by simp only; omega⟩
      · rintro ⟨w2, q2⟩ ⟨hw2, rfl⟩
        refine ok_lv (ok_ck (by simp only [apOk, List.length_append, List.length_singleton]; omega) (ok_some ⟨⟨?_, ?_⟩, by simp only; omega, by simp only; omega⟩))
        · rw [if_neg he]; rfl
        · exact All.snoc (xs := [w]) (All.snoc (xs := []) All.nil hw) hw2
      · have he : (gt n.Flops y).En = 1 := by omega
        rw [if_pos he]; rfl
      · exact All.snoc (xs := []) All.nil hw
    rintro ⟨dl, q2⟩ ⟨hd, hq1, hq2⟩
    simp only at hd hq1 hq2
    refine ok_lv (ok_ck (by simp only [apOk, List.length_append, List.length_singleton]; omega) (ok_bd (window_ok hL (by omega) (by omega)) ?_))
    rintro ⟨w3, q3⟩ ⟨hw3, rfl⟩
    refine ok_lv (ok_ck (by simp only [apOk, List.length_append, List.length_singleton]; omega) (ok_bd (window_ok hL (by simp only; omega) (by simp only; omega)) ?_))
    rintro ⟨w4, q4⟩ ⟨hw4, rfl⟩
    refine ok_lv (ok_ck (by simp only [apOk, List.length_append, List.length_singleton]; omega) (ok_ar (by omega) (ok_some ⟨⟨by simp only; omega, by simp only; omega, by simp only [List.length_append, List.length_singleton]; omega, by simp only; omega, y4.snoc ?_, y5.snoc hw3, y6.snoc hw4⟩, by simp only; omega⟩)))
    rw [y2.1]; exact hd
  rintro ⟨k2, D, C, La⟩ ⟨⟨d1, d2, d3⟩, d4, d5, d6, d7, d8⟩
  simp only at d1 d2 d3 d4 d5 d6 d7 d8
  refine ok_bd (R := fun r => (r.1.length : Int) = outs ∧ All (fun _ w => WinN 10 w) r.1 ∧ r.2 = k2 + 2 * outs) ?_ ?_
  · refine ok_lp (fun s => 0 ≤ s.1 ∧ s.1 ≤ outs ∧ (s.2.2.length : Int) = s.1 ∧ s.2.1 = k2 + 2 * s.1 ∧ All (fun _ w => WinN 10 w) s.2.2) (fun s => (outs - s.1).toNat) ⟨by simp, by simp only; omega, by simp, by simp, All.nil⟩ (by simp only; omega) ?_
    rintro ⟨y, q, xs⟩ ⟨y0, y1, y2, y3, y4⟩
    simp only at y0 y1 y2 y3 y4
    subst y3
    unfold P_maskmake_Stream_Delays_L22
    dsimp only
    refine ok_ite (fun hlt => ok_bd (window_ok hL (by omega) (by omega)) ?_) fun hge => ok_some ⟨by simp only; omega, y4, by simp only; omega⟩
    rintro ⟨w, q3⟩ ⟨hw, rfl⟩
    exact ok_lv (ok_ck (by simp only [apOk, List.length_append, List.length_singleton]; omega) (ok_ar (by omega) (ok_some ⟨⟨by simp only; omega, by simp only; omega, by simp only [List.length_append, List.length_singleton]; omega, by simp only; omega, y4.snoc hw⟩, by simp only; omega⟩)))
  rintro ⟨O, k3⟩ ⟨o1, o2, o3⟩
  simp only at o1 o2 o3
  exact ok_some ⟨⟨by simp only; omega, g2, by simp only; omega, d4, by simp only; omega, o2, by simp only; omega, d5, by simp only; omega, d6⟩, by simp only; omega, by simp only; omega⟩
end
end Go.Proofs.YtlolchgeedegdaaDoor.X
