/- Chip: the cells stand side by side. Plain. -/
import Derived.Test.YtnooiajahmichaaDoorQA
namespace Go.Proofs.YtnooiajahmichaaDoor.X
open Go Go.RowKit
set_option linter.unusedVariables false
theorem Lib8.n {l : List T_api_Cell} (h : Lib8 l) {i : Int} (hi : 0 ≤ i ∧ i < 8) : ∃ a b, CellN (gt l i) a b := by
  rcases (by omega : i = 0 ∨ i = 1 ∨ i = 2 ∨ i = 3 ∨ i = 4 ∨ i = 5 ∨ i = 6 ∨ i = 7) with e | e | e | e | e | e | e | e <;> subst e
  · exact ⟨_, _, h.c0.n⟩
  · exact ⟨_, _, h.c1.n⟩
  · exact ⟨_, _, h.c2.n⟩
  · exact ⟨_, _, h.c3.n⟩
  · exact ⟨_, _, h.c4.n⟩
  · exact ⟨_, _, h.c5.n⟩
  · exact ⟨_, _, h.c6.n⟩
  · exact ⟨_, _, h.c7.n⟩
theorem Lib8.area {l : List T_api_Cell} (h : Lib8 l) {i : Int} (hi : 0 ≤ i ∧ i < 8) : 1 ≤ (gt l i).Area ∧ (gt l i).Area ≤ 3 ∧ (gt l i).Ins ≤ 2 * (gt l i).Area := by
  obtain ⟨_, _, hn⟩ := h.n hi; exact hn.area
theorem TreeB_ok {L : List Int} (hL : Strm L) {k n : Int} (hk : Few (k + 1)) (hk0 : 0 ≤ k) (hn : 0 ≤ n ∧ n ≤ 60) : Ok (P_maskmake_Stream_Tree (T_maskmake_Stream.mk L k) n) (fun r => r.1.Cell = 0 ∧ r.1.Up.length ≤ 15 ∧ (r.1.Leaf.length : Int) = n ∧ k ≤ r.2 ∧ r.2 ≤ k + 1) := by
  unfold P_maskmake_Stream_Tree
  refine ok_ck ⟨by omega, by omega⟩ (ok_lv' fun z ez => ?_)
  have hz : (z.length : Int) = n := by rw [ez]; simp; omega
  refine ok_bd (R := fun o => k ≤ o.2 ∧ o.2 ≤ k + 1) ?_ ?_
  · refine ok_ite (fun _ => ok_some ⟨by simp, by simp only; omega⟩) fun _ => ok_bd_ite (fun _ => ?_) fun _ => ok_bd_some (ok_some ⟨by simp, by simp only; omega⟩)
    refine ok_bd_bd (ok_bd (hL.flip (by omega) (by omega)) ?_)
    rintro ⟨b, q⟩ rfl
    exact ok_bd_some (ok_some ⟨by simp only; omega, by simp only; omega⟩)
  rintro ⟨b, q⟩ ⟨q0, q1⟩
  simp only at q0 q1
  refine ok_bd (R := fun o => 0 ≤ o ∧ o ≤ 15) ?_ ?_
  · refine ok_ite (fun _ => ok_ar (by omega) (ok_ck (by omega) ?_)) fun _ => ok_some (by omega)
    have hd : Int.tdiv (n + 3) 4 = (n + 3) / 4 := Int.tdiv_eq_ediv_of_nonneg (by omega)
    rw [hd]
    exact ok_ar (by omega) (ok_some (by omega))
  rintro b1 ⟨b10, b11⟩
  refine ok_bd (R := fun o => 0 ≤ o ∧ o ≤ 15) ?_ ?_
  · refine ok_ite (fun _ => ok_ar (by omega) (ok_ck (by omega) ?_)) fun _ => ok_some (by omega)
    have hd : Int.tdiv (n + 7) 8 = (n + 7) / 8 := Int.tdiv_eq_ediv_of_nonneg (by omega)
    rw [hd]
    exact ok_ar (by omega) (ok_some (by omega))
  rintro b2 ⟨b20, b21⟩
  refine ok_bd (R := fun r => (r.length : Int) = b2) ?_ ?_
  · refine ok_lp (fun s => 0 ≤ s.1 ∧ s.1 ≤ b2 ∧ (s.2.length : Int) = s.1) (fun s => (b2 - s.1).toNat) ⟨by simp, by simp only; omega, by simp⟩ (by simp only; omega) ?_
    rintro ⟨y, u⟩ ⟨y0, y1, y2⟩
    simp only at y0 y1 y2
    unfold P_maskmake_Stream_Tree_L8
    dsimp only
    refine ok_ite (fun hlt => ok_lv (ok_ck ?_ (ok_ar (by omega) (ok_some ⟨⟨by simp only; omega, by simp only; omega, by simp only [List.length_append, List.length_singleton]; omega⟩, by simp only; omega⟩)))) fun hge => ok_some (by omega)
    simp only [List.length_append, List.length_singleton]; omega
  intro u hu
  refine ok_bd (R := fun r => r.length = z.length) ?_ ?_
  · refine ok_lp (fun s => 0 ≤ s.1 ∧ s.1 ≤ z.length ∧ s.2.length = z.length) (fun s => ((z.length : Int) - s.1).toNat) ⟨by simp, by simp only; omega, by simp⟩ (by simp only; omega) ?_
    rintro ⟨y, v⟩ ⟨y0, y1, y2⟩
    simp only at y0 y1 y2
    unfold P_maskmake_Stream_Tree_L12
    dsimp only
    refine ok_ite (fun hlt => ok_ck ⟨y0, by omega⟩ (ok_lv' fun z1 e1 => ?_)) fun hge => ok_some y2
    have hz1 : z1.length = z.length := by rw [e1, stt_length, y2]
    refine ok_bd_ite (fun hb => ok_bd_ck (by omega) (ok_bd_lv (ok_bd_ck ⟨y0, by omega⟩ (ok_bd_lv (ok_bd_some (ok_ar (by omega) (ok_some ⟨⟨by simp only; omega, by simp only; omega, ?_⟩, by simp only; omega⟩))))))) fun hb => ok_bd_some (ok_ar (by omega) (ok_some ⟨⟨by simp only; omega, by simp only; omega, hz1⟩, by simp only; omega⟩))
    simp only; rw [stt_length, hz1]
  intro v hv
  exact ok_some ⟨rfl, by simp only; omega, by simp only; omega, q0, q1⟩
theorem ports_ok {L : List Int} (hL : Strm L) {k : Int} (hk : Few (k + 1000)) (hk0 : 0 ≤ k) {c : T_legal_Chip} {ps : List T_floor_Port} (h1 : 1 ≤ c.Floor.Sites ∧ c.Floor.Sites ≤ 100) (h2 : 1 ≤ c.Floor.Rows ∧ c.Floor.Rows ≤ 1000) (h3 : ps.length ≤ 200) (h4 : c.Floor.Ports.length = 0) :
    Ok (P_maskmake_Stream_ports_2 (T_maskmake_Stream.mk L k) c ps) (fun r => k ≤ r.1 ∧ r.1 ≤ k + 300 ∧ r.2.length = ps.length) := by
  unfold P_maskmake_Stream_ports_2 P_floor_Size
  dsimp only
  refine ok_bd (R := fun o => o.1 = 4 * c.Floor.Sites + 8 ∧ o.2 = 4 * c.Floor.Rows + 8) (ok_ar (by omega) (ok_ar (by omega) (ok_ar (by omega) (ok_ar (by omega) (ok_some ⟨rfl, rfl⟩))))) ?_
  rintro ⟨w, h⟩ ⟨rfl, rfl⟩
  refine ok_bd (hL.next (by omega) (by omega)) ?_
  rintro ⟨a, q⟩ ⟨a0, a1, -, rfl⟩
  have a1 := a1 (by omega)
  simp only at a0 a1
  refine ok_bd (R := fun o => k ≤ o.1 ∧ o.1 ≤ k + 300 ∧ o.2.length = ps.length) ?_ fun r hr => ok_some hr
  refine ok_lp (fun s => 0 ≤ s.2.1 ∧ s.2.1 ≤ ps.length ∧ 0 ≤ s.1 ∧ s.1 ≤ 3 + 100000 * s.2.1 ∧ s.2.2.1 = k + 1 + s.2.1 ∧ (s.2.2.2.length : Int) = s.2.1) (fun s => ((ps.length : Int) - s.2.1).toNat) ⟨by simp, by simp, by simp only; omega, by simp only; omega, by simp, by simp only; omega⟩ (by simp only; omega) ?_
  rintro ⟨kk, y, q, fs⟩ ⟨y0, y1, y2, y3, y4, y5⟩
  simp only at y0 y1 y2 y3 y4 y5
  subst y4
  unfold P_maskmake_Stream_ports_2_L3
  dsimp only
  refine ok_ite (fun hlt => ok_ck ⟨y0, hlt⟩ (ok_lv' fun z ez => ok_ar (by omega) (ok_ar (by omega) (ok_bd (R := fun _ => True) ?_ ?_)))) fun hge => ok_some ⟨by simp only; omega, by simp only; omega, by simp only; omega⟩
  · (repeat' (with_reducible first | refine ok_ck ?_ ?_ | refine ok_ar ?_ ?_ | refine ok_lv ?_ | refine ok_bd_some ?_ | refine ok_bd_ck ?_ ?_ | refine ok_bd_ar ?_ ?_ | refine ok_bd_lv ?_ | refine ok_bs_inl ?_ | refine ok_bs_inr ?_ | refine ok_ite (fun _ => ?_) (fun _ => ?_) | refine ok_bd_ite (fun _ => ?_) (fun _ => ?_) | refine ok_bs_ite (fun _ => ?_) (fun _ => ?_) | refine ok_bs_ck ?_ ?_ | refine ok_bs_ar ?_ ?_ | refine ok_bs_lv ?_ | refine ok_bd_bd ?_ | refine ok_bd_gd (fun _ => ?_) (fun _ => ?_)))
    all_goals first | omega | exact ok_some trivial
  rintro ⟨px, py⟩ -
  refine ok_lv (ok_ck ?_ (ok_ar (by omega) (ok_ck (by omega) ?_)))
  · simp only [List.length_append, List.length_singleton]; omega
  have hd : Int.tdiv (2 * (4 * c.Floor.Sites + 8 + (4 * c.Floor.Rows + 8))) ((ps.length : Int) + 1) = (2 * (4 * c.Floor.Sites + 8 + (4 * c.Floor.Rows + 8))) / ((ps.length : Int) + 1) := Int.tdiv_eq_ediv_of_nonneg (by omega)
  have hd0 : 0 ≤ (2 * (4 * c.Floor.Sites + 8 + (4 * c.Floor.Rows + 8))) / ((ps.length : Int) + 1) := Int.ediv_nonneg (by omega) (by omega)
  have hd1 : (2 * (4 * c.Floor.Sites + 8 + (4 * c.Floor.Rows + 8))) / ((ps.length : Int) + 1) ≤ 2 * (4 * c.Floor.Sites + 8 + (4 * c.Floor.Rows + 8)) := Int.ediv_le_self _ (by omega)
  rw [hd]
  generalize (2 * (4 * c.Floor.Sites + 8 + (4 * c.Floor.Rows + 8))) / ((ps.length : Int) + 1) = dd at *
  refine ok_ar (by omega) (ok_ar (by omega) (ok_lv (ok_bd (hL.next (by omega) (by omega)) ?_)))
  rintro ⟨b, q2⟩ ⟨b0, b1, -, rfl⟩
  have b1 := b1 (by omega)
  simp only at b0 b1
  exact ok_ar (by simp only; omega) (ok_ar (by simp only; omega) (ok_ar (by omega) (ok_some ⟨⟨by simp only; omega, by simp only; omega, by simp only; omega, by simp only; omega, by simp only; omega, by simp only [List.length_append, List.length_singleton]; omega⟩, by simp only; omega⟩)))
/-- Cells that stand side by side, row by row. -/
structure Stand (areas : List Int) (ss : List T_floor_Site) (wide row : Int) : Prop where
  len : ss.length = areas.length
  site : All (fun i s => 0 ≤ s.Row ∧ s.Row ≤ row ∧ 0 ≤ s.At ∧ s.At + gt areas i ≤ wide) ss
  apart : ∀ i j, 0 ≤ i → i < j → j < (ss.length : Int) → (gt ss i).Row < (gt ss j).Row ∨ (gt ss i).Row = (gt ss j).Row ∧ (gt ss i).At + gt areas i ≤ (gt ss j).At
/-- What Chip returns of a netlist. -/
structure Chipped (c : T_legal_Chip) (n : T_api_Netlist) (l : List T_api_Cell) (areas : List Int) : Prop where
  net : c.Net = n
  lib : c.Lib = l
  wide : 6 ≤ c.Floor.Sites ∧ c.Floor.Sites ≤ 9
  rows : 1 ≤ c.Floor.Rows ∧ c.Floor.Rows ≤ 200
  stand : Stand areas c.Sites c.Floor.Sites (c.Floor.Rows - 1)
  gates : ∀ i, inb i n.Gates.length → gt areas i = (gt l (gt n.Gates i).Cell).Area
  few : n.Gates.length ≤ areas.length
theorem Chip_ok {L : List Int} (hL : Strm L) {k : Int} (hk : Few (k + 10000)) (hk0 : 0 ≤ k) {l : List T_api_Cell} (hl : Lib8 l) {n : T_api_Netlist} {ins flops gates outs : Int} (hn : PlacedN n l ins flops gates outs) (hi : 1 ≤ ins ∧ ins ≤ 20) (hf : 0 ≤ flops ∧ flops ≤ 20) (hg : 0 ≤ gates ∧ gates ≤ 100) (ho : 0 ≤ outs ∧ outs ≤ 20) :
    Ok (P_maskmake_Stream_Chip (T_maskmake_Stream.mk L k) n l) (fun r => (∃ areas, Chipped r.1 n l areas) ∧ k ≤ r.2 ∧ r.2 ≤ k + 5000) := by
  have h8 := hl.len
  have hgl := hn.gateL
  have hfl := hn.flopL
  have hil := hn.inL
  have hol := hn.outL
  unfold P_maskmake_Stream_Chip
  refine ok_bd (TreeB_ok hL (by omega) hk0 (by omega)) ?_
  rintro ⟨t, q⟩ ⟨t0, t1, t2, t3, t4⟩
  simp only at t0 t1 t2 t3 t4
  dsimp only
  refine ok_bd (R := fun r => (r.length : Int) = gates ∧ All (fun i a => a = (gt l (gt n.Gates i).Cell).Area ∧ 1 ≤ a ∧ a ≤ 3) r) ?_ ?_
  · refine ok_lp (fun s => 0 ≤ s.2 ∧ s.2 ≤ gates ∧ (s.1.length : Int) = s.2 ∧ All (fun i a => a = (gt l (gt n.Gates i).Cell).Area ∧ 1 ≤ a ∧ a ≤ 3) s.1) (fun s => (gates - s.2).toNat) ⟨by simp, by simp only; omega, by simp, All.nil⟩ (by simp only; omega) ?_
    rintro ⟨as_, y⟩ ⟨y0, y1, y2, y3⟩
    simp only at y0 y1 y2 y3
    unfold P_maskmake_Stream_Chip_L5
    dsimp only
    refine ok_ite (fun hlt => ok_ck ⟨y0, hlt⟩ (ok_lv' fun g eg => ?_)) fun hge => ok_some ⟨by omega, y3⟩
    have hg1 := (hn.gate y ⟨y0, hlt⟩).1
    rw [← eg] at hg1
    have ha := hl.area (i := g.Cell) ⟨hg1.1, by omega⟩
    refine ok_ck ⟨hg1.1, by omega⟩ (ok_lv (ok_lv (ok_ck ?_ (ok_ar (by omega) (ok_some ⟨⟨by simp only; omega, by simp only; omega, by simp only [List.length_append, List.length_singleton]; omega, y3.snoc ?_⟩, by simp only; omega⟩)))))
    · simp only [List.length_append, List.length_singleton]; omega
    · rw [y2, ← eg]; exact ⟨rfl, ha.1, ha.2.1⟩
  rintro a1 ⟨a1l, a1a⟩
  refine ok_bd (R := fun r => ∃ b, r = a1 ++ b ∧ (b.length : Int) = flops ∧ All (fun _ a => 1 ≤ a ∧ a ≤ 3) b) ?_ ?_
  · refine ok_lp (fun s => 0 ≤ s.2 ∧ s.2 ≤ flops ∧ ∃ b, s.1 = a1 ++ b ∧ (b.length : Int) = s.2 ∧ All (fun _ a => 1 ≤ a ∧ a ≤ 3) b) (fun s => (flops - s.2).toNat) ⟨by simp, by simp only; omega, [], by simp, by simp, All.nil⟩ (by simp only; omega) ?_
    rintro ⟨_, y⟩ ⟨y0, y1, b, rfl, y2, y3⟩
    simp only at y0 y1 y2 y3
    unfold P_maskmake_Stream_Chip_L10
    dsimp only
    refine ok_ite (fun hlt => ok_ck ⟨y0, hlt⟩ (ok_lv' fun g eg => ?_)) fun hge => ok_some ⟨b, rfl, by omega, y3⟩
    have hg1 := (hn.flop y ⟨y0, hlt⟩).2.2
    rw [← eg] at hg1
    have ha := hl.area (i := g.Cell) ⟨by omega, by omega⟩
    refine ok_ck ⟨by omega, by omega⟩ (ok_lv (ok_lv (ok_ck ?_ (ok_ar (by omega) (ok_some ⟨⟨by simp only; omega, by simp only; omega, b ++ [_], (List.append_assoc _ _ _), by simp only [List.length_append, List.length_singleton]; omega, y3.snoc ⟨ha.1, ha.2.1⟩⟩, by simp only; omega⟩)))))
    simp only [List.length_append, List.length_singleton]; omega
  rintro _ ⟨a2, rfl, a2l, a2a⟩
  refine ok_bd (R := fun r => ∃ b, r = a1 ++ a2 ++ b ∧ b.length = t.Up.length ∧ All (fun _ a => 1 ≤ a ∧ a ≤ 3) b) ?_ ?_
  · refine ok_lp (fun s => 0 ≤ s.2 ∧ s.2 ≤ t.Up.length ∧ ∃ b, s.1 = a1 ++ a2 ++ b ∧ (b.length : Int) = s.2 ∧ All (fun _ a => 1 ≤ a ∧ a ≤ 3) b) (fun s => ((t.Up.length : Int) - s.2).toNat) ⟨by simp, by simp only; omega, [], by simp, by simp, All.nil⟩ (by simp only; omega) ?_
    rintro ⟨_, y⟩ ⟨y0, y1, b, rfl, y2, y3⟩
    simp only at y0 y1 y2 y3
    unfold P_maskmake_Stream_Chip_L15
    dsimp only
    rw [t0]
    have ha := hl.area (i := 0) ⟨by omega, by omega⟩
    refine ok_ite (fun hlt => ok_ck ⟨by omega, by omega⟩ (ok_lv (ok_lv (ok_ck ?_ (ok_ar (by omega) (ok_some ⟨⟨by simp only; omega, by simp only; omega, b ++ [_], (List.append_assoc _ _ _), by simp only [List.length_append, List.length_singleton]; omega, y3.snoc ⟨ha.1, ha.2.1⟩⟩, by simp only; omega⟩)))))) fun hge => ok_some ⟨b, rfl, by omega, y3⟩
    simp only [List.length_append, List.length_singleton]; omega
  rintro _ ⟨a3, rfl, a3l, a3a⟩
  have hlen : ((a1 ++ a2 ++ a3).length : Int) = gates + flops + t.Up.length := by simp only [List.length_append]; omega
  have hgates : ∀ i, inb i n.Gates.length → gt (a1 ++ a2 ++ a3) i = (gt l (gt n.Gates i).Cell).Area := by
    intro i hi
    have h1 := hi.1
    have h2 := hi.2
    rw [List.append_assoc, gt_app_l (by omega)]
    exact (a1a i ⟨h1, by omega⟩).1
  have hall : ∀ i, inb i (a1 ++ a2 ++ a3).length → 1 ≤ gt (a1 ++ a2 ++ a3) i ∧ gt (a1 ++ a2 ++ a3) i ≤ 3 := by
    intro i hi
    have hm := gt_mem hi
    have ofm : ∀ {xs : List Int} {p : Int → Int → Prop}, All p xs → ∀ x ∈ xs, ∃ i, p i x := by
      intro xs p h x hx
      obtain ⟨j, hj, rfl⟩ := List.mem_iff_getElem.1 hx
      refine ⟨j, ?_⟩
      have := h j ⟨by omega, by omega⟩
      rwa [gt_get ⟨by omega, by omega⟩] at this
    rcases List.mem_append.1 hm with hm | hm
    · rcases List.mem_append.1 hm with hm | hm
      · obtain ⟨_, h⟩ := ofm a1a _ hm; exact h.2
      · obtain ⟨_, h⟩ := ofm a2a _ hm; exact h
    · obtain ⟨_, h⟩ := ofm a3a _ hm; exact h
  generalize a1 ++ a2 ++ a3 = areas at *
  refine ok_bd (hL.next (by omega) (by omega)) ?_
  rintro ⟨wd, q1⟩ ⟨w0, w1, -, rfl⟩
  have w1 := w1 (by omega)
  simp only at w0 w1
  refine ok_ar' (by simp only; omega) fun wide ewide => ?_
  simp only at ewide
  refine ok_bd (R := fun r => 0 ≤ r.1 ∧ r.1 ≤ areas.length ∧ (q ≤ r.2.1 ∧ r.2.1 ≤ q + 1000) ∧ Stand areas r.2.2 wide r.1) ?_ ?_
  · refine ok_lp (fun s => 0 ≤ s.2.2.1 ∧ s.2.2.1 ≤ areas.length ∧ (0 ≤ s.1 ∧ s.1 ≤ s.2.2.1) ∧ (0 ≤ s.2.1 ∧ s.2.1 ≤ wide) ∧ s.2.2.2.1 = q + 1 + s.2.2.1 ∧ (s.2.2.2.2.length : Int) = s.2.2.1 ∧
        All (fun i x => 0 ≤ x.Row ∧ x.Row ≤ s.1 ∧ 0 ≤ x.At ∧ x.At + gt areas i ≤ wide ∧ (x.Row = s.1 → x.At + gt areas i ≤ s.2.1)) s.2.2.2.2 ∧
        ∀ i j, 0 ≤ i → i < j → j < (s.2.2.2.2.length : Int) → (gt s.2.2.2.2 i).Row < (gt s.2.2.2.2 j).Row ∨ (gt s.2.2.2.2 i).Row = (gt s.2.2.2.2 j).Row ∧ (gt s.2.2.2.2 i).At + gt areas i ≤ (gt s.2.2.2.2 j).At)
      (fun s => ((areas.length : Int) - s.2.2.1).toNat) ⟨by simp, by simp, by simp, by simp only; omega, by simp, by simp, All.nil, fun i j _ _ h => by simp at h; omega⟩ (by simp only; omega) ?_
    rintro ⟨row, at_, y, q2, ss⟩ ⟨y0, y1, r0, c0, y2, y3, y4, y5⟩
    simp only at y0 y1 r0 c0 y2 y3 y4 y5
    subst y2
    unfold P_maskmake_Stream_Chip_L21
    dsimp only
    refine ok_ite (fun hlt => ok_ck ⟨y0, hlt⟩ (ok_lv' fun a ea => ok_bd (hL.next (by omega) (by omega)) ?_)) fun hge => ok_some ⟨r0.1, by simp only; omega, by simp only; omega, by simp only; omega, fun i hi => ?_, y5⟩
    · rintro ⟨d, q3⟩ ⟨d0, d1, -, rfl⟩
      have d1 := d1 (by omega)
      simp only at d0 d1
      have ha := hall y ⟨y0, hlt⟩
      rw [← ea] at ha
      refine ok_ar' (by simp only; omega) fun x95 e95 => ok_ar' (by omega) fun x98 e98 => ok_bd (R := fun o => (o.1 = row + 1 ∧ o.2 = 0 ∨ o.1 = row ∧ o.2 = at_ + d ∧ at_ + d + a ≤ wide)) (ok_ite (fun hc => ok_ar (by omega) (ok_some (.inl ⟨rfl, rfl⟩))) fun hc => ok_some (.inr ⟨rfl, e95, by simp only at e95; omega⟩)) ?_
      rintro ⟨row2, at2⟩ hr
      simp only at hr
      refine ok_lv (ok_ck ?_ (ok_ar (by simp only; omega) (ok_ar (by omega) (ok_some ⟨⟨by simp only; omega, by simp only; omega, by simp only; omega, by simp only; omega, by simp only; omega, by simp only [List.length_append, List.length_singleton]; omega, ?_, ?_⟩, by simp only; omega⟩))))
      · simp only [List.length_append, List.length_singleton]; omega
      · refine All.snoc (fun i hi => ?_) ?_
        · have := y4 i hi
          simp only
          refine ⟨this.1, by omega, this.2.2.1, this.2.2.2.1, fun e => ?_⟩
          rcases hr with ⟨hr1, hr2⟩ | ⟨hr1, hr2, hr3⟩
          · omega
          · have := this.2.2.2.2 (by omega); omega
        · simp only
          rw [y3, ← ea]
          refine ⟨by omega, by omega, by omega, by omega, fun _ => by omega⟩
      · intro i j i0 ij j1
        simp only [List.length_append, List.length_singleton] at j1
        simp only
        rw [gt_app_l (i := i) (by omega)]
        by_cases e : j = ss.length
        · rw [gt_app_1 e]
          have := y4 i ⟨i0, by omega⟩
          simp only
          rcases hr with ⟨hr1, hr2⟩ | ⟨hr1, hr2, hr3⟩
          · left; omega
          · by_cases e2 : (gt ss i).Row = row
            · right; have := this.2.2.2.2 e2; omega
            · left; omega
        · rw [gt_app_l (i := j) (by omega)]
          exact y5 i j i0 ij (by omega)
    · have := y4 i hi
      exact ⟨this.1, this.2.1, this.2.2.1, this.2.2.2.1⟩
  rintro ⟨row, q2, ss⟩ ⟨r0, r1, hq, hst⟩
  simp only at r0 r1 hq hst
  refine ok_ar' (by omega) fun rows erows => ok_bd (hL.range (by simp only; omega) (by omega) (by omega) (by omega)) ?_
  rintro ⟨ly, q3⟩ ⟨l0, l1, rfl⟩
  simp only at l0 l1
  refine ok_bd (R := fun r => (r.length : Int) = ins) ?_ ?_
  · refine ok_lp (fun s => 0 ≤ s.2 ∧ s.2 ≤ ins ∧ (s.1.length : Int) = s.2) (fun s => (ins - s.2).toNat) ⟨by simp, by simp only; omega, by simp⟩ (by simp only; omega) ?_
    rintro ⟨ps, y⟩ ⟨y0, y1, y2⟩
    simp only at y0 y1 y2
    unfold P_maskmake_Stream_Chip_L32
    dsimp only
    refine ok_ite (fun hlt => ok_ck ⟨y0, hlt⟩ (ok_lv (ok_lv (ok_ck ?_ (ok_ar (by omega) (ok_some ⟨⟨by simp only; omega, by simp only; omega, by simp only [List.length_append, List.length_singleton]; omega⟩, by simp only; omega⟩)))))) fun hge => ok_some (by omega)
    simp only [List.length_append, List.length_singleton]; omega
  intro p1 hp1
  refine ok_bd (R := fun r => (r.length : Int) = ins + outs) ?_ ?_
  · refine ok_lp (fun s => 0 ≤ s.2 ∧ s.2 ≤ outs ∧ (s.1.length : Int) = ins + s.2) (fun s => (outs - s.2).toNat) ⟨by simp, by simp only; omega, by simp only; omega⟩ (by simp only; omega) ?_
    rintro ⟨ps, y⟩ ⟨y0, y1, y2⟩
    simp only at y0 y1 y2
    unfold P_maskmake_Stream_Chip_L37
    dsimp only
    refine ok_ite (fun hlt => ok_ck ⟨y0, hlt⟩ (ok_lv (ok_lv (ok_ck ?_ (ok_ar (by omega) (ok_some ⟨⟨by simp only; omega, by simp only; omega, by simp only [List.length_append, List.length_singleton]; omega⟩, by simp only; omega⟩)))))) fun hge => ok_some (by omega)
    simp only [List.length_append, List.length_singleton]; omega
  intro p2 hp2
  refine ok_bd (R := fun r => (r.length : Int) ≤ ins + outs + 1) (ok_ite (fun _ => ok_lv (ok_ck ?_ (ok_some ?_))) fun _ => ok_some (by omega)) ?_
  · simp only [List.length_append, List.length_singleton]; omega
  · simp only [List.length_append, List.length_singleton]; omega
  intro p3 hp3
  refine ok_bd (ports_ok hL (by simp only; omega) (by simp only; omega) (by simp only; omega) (by simp only; omega) (by omega) rfl) ?_
  rintro ⟨q4, ps⟩ ⟨h1, h2, h3⟩
  simp only at h1 h2 h3
  refine ok_some ⟨⟨areas, rfl, rfl, by simp only; omega, by simp only; omega, ?_, hgates, by omega⟩, by simp only; omega, by simp only; omega⟩
  simp only
  rw [erows, show row + 1 - 1 = row by omega]
  exact hst
end Go.Proofs.YtnooiajahmichaaDoor.X
