/- LayfmtBack. Plain. -/
import Derived.Test.YtlolchgeedegdaaDoorLF
namespace Go.Proofs.YtlolchgeedegdaaDoor.X
open Go Go.RowKit
set_option linter.unusedVariables false
set_option linter.unusedSimpArgs false
set_option linter.unusedSectionVars false
def faddAll (ks : List Fk) (s : S7) : S7 := ks.foldl (fun s k => k.add s) s
theorem faddAll_app (a b : List Fk) (s : S7) : faddAll (a ++ b) s = faddAll b (faddAll a s) := List.foldl_append
theorem faddAll_block : ∀ (xs : List T_floor_Block) (s : S7), faddAll (xs.map Fk.block) s = (s.1, s.2.1, s.2.2.1, s.2.2.2.1 ++ xs, s.2.2.2.2.1, s.2.2.2.2.2.1, s.2.2.2.2.2.2)
  | [], s => by simp [faddAll]
  | x :: xs, s => by
    have := faddAll_block xs (Fk.add (.block x) s)
    simp only [faddAll, List.map_cons, List.foldl_cons] at *
    rw [this]; simp [Fk.add]
theorem faddAll_wall : ∀ (xs : List T_floor_Wall) (s : S7), faddAll (xs.map Fk.wall) s = (s.1, s.2.1, s.2.2.1, s.2.2.2.1, s.2.2.2.2.1 ++ xs, s.2.2.2.2.2.1, s.2.2.2.2.2.2)
  | [], s => by simp [faddAll]
  | x :: xs, s => by
    have := faddAll_wall xs (Fk.add (.wall x) s)
    simp only [faddAll, List.map_cons, List.foldl_cons] at *
    rw [this]; simp [Fk.add]
theorem faddAll_port : ∀ (xs : List T_floor_Port) (s : S7), faddAll (xs.map Fk.port) s = (s.1, s.2.1, s.2.2.1, s.2.2.2.1, s.2.2.2.2.1, s.2.2.2.2.2.1 ++ xs, s.2.2.2.2.2.2)
  | [], s => by simp [faddAll]
  | x :: xs, s => by
    have := faddAll_port xs (Fk.add (.port x) s)
    simp only [faddAll, List.map_cons, List.foldl_cons] at *
    rw [this]; simp [Fk.add]
theorem faddAll_site : ∀ (xs : List T_floor_Site) (s : S7), faddAll (xs.map Fk.site) s = (s.1, s.2.1, s.2.2.1, s.2.2.2.1, s.2.2.2.2.1, s.2.2.2.2.2.1, s.2.2.2.2.2.2 ++ xs)
  | [], s => by simp [faddAll]
  | x :: xs, s => by
    have := faddAll_site xs (Fk.add (.site x) s)
    simp only [faddAll, List.map_cons, List.foldl_cons] at *
    rw [this]; simp [Fk.add]
theorem faddAll_flines (f : T_floor_Floor) (ss : List T_floor_Site) : faddAll (flines f ss) (0, 0, 0, [], [], [], []) = (f.Rows, f.Sites, f.Layers, f.Blocks, f.Walls, f.Ports, ss) := by
  unfold flines
  rw [faddAll_app, faddAll_app, faddAll_app, faddAll_app, faddAll_block, faddAll_wall, faddAll_port, faddAll_site]
  simp [faddAll, Fk.add]
theorem faddAll_len : ∀ (ks : List Fk) (s : S7), (faddAll ks s).2.2.2.1.length ≤ s.2.2.2.1.length + ks.length ∧ (faddAll ks s).2.2.2.2.1.length ≤ s.2.2.2.2.1.length + ks.length ∧ (faddAll ks s).2.2.2.2.2.1.length ≤ s.2.2.2.2.2.1.length + ks.length ∧ (faddAll ks s).2.2.2.2.2.2.length ≤ s.2.2.2.2.2.2.length + ks.length
  | [], s => by simp [faddAll]
  | k :: ks, s => by
    have h := faddAll_len ks (k.add s)
    have e : faddAll (k :: ks) s = faddAll ks (k.add s) := rfl
    rw [e]
    have h2 : (k.add s).2.2.2.1.length ≤ s.2.2.2.1.length + 1 ∧ (k.add s).2.2.2.2.1.length ≤ s.2.2.2.2.1.length + 1 ∧ (k.add s).2.2.2.2.2.1.length ≤ s.2.2.2.2.2.1.length + 1 ∧ (k.add s).2.2.2.2.2.2.length ≤ s.2.2.2.2.2.2.length + 1 := by
      cases k <;> simp [Fk.add]
    simp only [List.length_cons]
    omega
theorem fpart_le (k : Fk) : 0 ≤ k.part ∧ k.part ≤ 4 := by cases k <;> simp [Fk.part]
theorem fl_cons (f : T_floor_Floor) (ss : List T_floor_Site) : flines f ss = .flo f :: (f.Blocks.map Fk.block ++ (f.Walls.map Fk.wall ++ (f.Ports.map Fk.port ++ ss.map Fk.site))) := by simp [flines]
theorem fl_sorted (f : T_floor_Floor) (ss : List T_floor_Site) : (flines f ss).Pairwise (fun a b => a.part ≤ b.part) := by
  rw [fl_cons]
  simp only [List.pairwise_cons, List.pairwise_append, List.pairwise_map, List.mem_append, List.mem_map, Fk.part]
  refine ⟨fun k _ => (fpart_le k).1, ?_, ⟨?_, ⟨?_, ?_, ?_⟩, ?_⟩, ?_⟩
  · exact pw_all (fun _ _ => Int.le_refl _) _
  · exact pw_all (fun _ _ => Int.le_refl _) _
  · exact pw_all (fun _ _ => Int.le_refl _) _
  · exact pw_all (fun _ _ => Int.le_refl _) _
  · rintro a ⟨x, -, rfl⟩ b ⟨y, -, rfl⟩; simp [Fk.part]
  · rintro a ⟨x, -, rfl⟩ b (⟨y, -, rfl⟩ | ⟨y, -, rfl⟩) <;> simp [Fk.part]
  · rintro a ⟨x, -, rfl⟩ b (⟨y, -, rfl⟩ | ⟨y, -, rfl⟩ | ⟨y, -, rfl⟩) <;> simp [Fk.part]
theorem fl_mono {f : T_floor_Floor} {ss : List T_floor_Site} {i j : Int} (h0 : 0 ≤ i) (h1 : i < j) (h2 : j < (flines f ss).length) : (gt (flines f ss) i).part ≤ (gt (flines f ss) j).part := by
  obtain ⟨a, rfl⟩ := Int.eq_ofNat_of_zero_le h0
  obtain ⟨b, rfl⟩ := Int.eq_ofNat_of_zero_le (by omega : 0 ≤ j)
  have ha : a < (flines f ss).length := by omega
  have hb : b < (flines f ss).length := by omega
  have := List.pairwise_iff_getElem.1 (fl_sorted f ss) a b ha hb (by omega)
  simpa [gt, List.getD_eq_getElem?_getD, ha, hb] using this
theorem fl_zero {f : T_floor_Floor} {ss : List T_floor_Site} {y : Int} (hy : inb y (flines f ss).length) : (gt (flines f ss) y).part = 0 ↔ y = 0 := by
  constructor
  · intro h
    by_cases e : y = 0
    · exact e
    exfalso
    obtain ⟨k, rfl⟩ := Int.eq_ofNat_of_zero_le hy.1
    obtain ⟨k, rfl⟩ : ∃ j, k = j + 1 := ⟨k - 1, by omega⟩
    have h2 := hy.2
    rw [fl_cons] at h h2
    have hk : k < (f.Blocks.map Fk.block ++ (f.Walls.map Fk.wall ++ (f.Ports.map Fk.port ++ ss.map Fk.site))).length := by simp only [List.length_cons] at h2; omega
    have hm := List.getElem_mem hk
    have e2 : gt (Fk.flo f :: (f.Blocks.map Fk.block ++ (f.Walls.map Fk.wall ++ (f.Ports.map Fk.port ++ ss.map Fk.site)))) ((k + 1 : Nat) : Int) = (f.Blocks.map Fk.block ++ (f.Walls.map Fk.wall ++ (f.Ports.map Fk.port ++ ss.map Fk.site)))[k] := by
      simp only [gt, Int.toNat_natCast, List.getD_eq_getElem?_getD, List.getElem?_cons_succ, List.getElem?_eq_getElem hk, Option.getD_some]
    rw [e2] at h
    generalize (f.Blocks.map Fk.block ++ (f.Walls.map Fk.wall ++ (f.Ports.map Fk.port ++ ss.map Fk.site)))[k] = q at h hm
    simp only [List.mem_append, List.mem_map] at hm
    rcases hm with ⟨x, -, rfl⟩ | ⟨x, -, rfl⟩ | ⟨x, -, rfl⟩ | ⟨x, -, rfl⟩ <;> simp [Fk.part] at h
  · rintro rfl
    rw [fl_cons]
    rfl
section
variable {f : T_floor_Floor} (hf : FlN f) {ss : List T_floor_Site} (hl : ss.length ≤ 5) (hs : All (fun _ s => SiteN f.Rows f.Sites s) ss)
include hf hl hs
theorem FRead_ok (hc : P_floor_Check f = some 0) : Ok (P_layfmt_ReadFloor (unl ((flines f ss).map Fk.text))) (fun r => r = (f, ss, 0, 0)) := by
  obtain ⟨w, hw, e, z⟩ := FText_ok hf hl hs hc
  have hg := fgood hf hl hs
  have hlen := flen hf hl hs
  unfold P_layfmt_ReadFloor
  refine ok_f (by omega) (ok_bd (lines_ok ?_ (by omega) (by rw [List.length_map]; omega)) ?_)
  · intro x hx
    obtain ⟨k, hk, rfl⟩ := List.mem_map.1 hx
    exact ftext_free (hg k hk)
  rintro _ rfl
  refine ok_f (by simp) (ok_bs1 (R := fun r => r = (f.Rows, f.Sites, f.Layers, f.Blocks, f.Walls, f.Ports, ss)) ?_ ?_)
  · refine ok_lp (fun s => (0 ≤ s.2.1 ∧ s.2.1 ≤ (flines f ss).length) ∧ s.2.2 = faddAll ((flines f ss).take s.2.1.toNat) (0, 0, 0, [], [], [], []) ∧ ∀ i, s.2.1 ≤ i → i < (flines f ss).length → s.1 ≤ (gt (flines f ss) i).part) (fun s => ((flines f ss).length - s.2.1).toNat) ⟨⟨by simp, by simp only; omega⟩, rfl, fun i _ _ => (fpart_le _).1⟩ (by simp only; omega) ?_
    rintro ⟨p, y, s⟩ ⟨⟨y0, y1⟩, y2, y3⟩
    simp only at y0 y1 y2 y3
    unfold P_layfmt_ReadFloor_L11
    obtain ⟨R, S, Y, bs, ws, ps, xs⟩ := s
    dsimp only
    have hll : ((((flines f ss).map Fk.text).length : Nat) : Int) = (flines f ss).length := by rw [List.length_map]
    refine ok_ite (fun hlt => ?_) fun hge => ok_some ⟨_, rfl, by rw [y2, List.take_of_length_le (by omega), faddAll_flines]⟩
    have hy : inb y (flines f ss).length := ⟨y0, by omega⟩
    refine ok_ck ⟨y0, by omega⟩ (ok_lv ?_)
    rw [gt_map Fk.text hy]
    have hG := hg _ (gt_mem hy)
    obtain ⟨f1, f2, f3⟩ := fword_free (gt (flines f ss) y)
    have hz := ftext_size hG
    refine ok_bd (R := fun r => r.1 = (gt (flines f ss) y).word) ?_ ?_
    · unfold P_strings_Cut
      refine ok_ck (by omega) (ok_some ?_)
      obtain ⟨b, hb⟩ := text_cut (gt (flines f ss) y)
      rw [hb]
      exact cutS_at f1
    rintro ⟨wd, r2, r3⟩ hwd
    simp only at hwd
    subst hwd
    refine ok_bd (ok_eq (part_ok _) rfl) ?_
    rintro _ rfl
    have hz0 := fl_zero hy
    have hp := y3 y (Int.le_refl _) (by omega)
    have hge := (fpart_le (gt (flines f ss) y)).1
    have hsl := faddAll_len ((flines f ss).take y.toNat) (0, 0, 0, [], [], [], [])
    rw [← y2] at hsl
    simp only [List.length_take, List.length_nil] at hsl
    refine ok_lv (ok_lv (ok_lv (ok_lv (ok_bd (R := fun r => r = (false, (gt (flines f ss) y).add (R, S, Y, bs, ws, ps, xs))) (ok_f ?_ (ok_bd (lay_ok (s := (R, S, Y, bs, ws, ps, xs)) hG (by simp only; omega) (by simp only; omega) (by simp only; omega) (by simp only; omega)) ?_)) ?_))))
    · simp only [Bool.or_eq_true, Bool.and_eq_true, decide_eq_true_eq]
      omega
    · rintro _ rfl
      exact ok_some rfl
    rintro _ rfl
    refine ok_f (by simp) (ok_ar (by omega) (ok_some ⟨⟨⟨by simp only; omega, by simp only; omega⟩, ?_, ?_⟩, by simp only; omega⟩))
    · simp only
      rw [take_snoc hy, faddAll_app, ← y2]
      rfl
    · intro i i0 i1
      simp only at i0 ⊢
      exact fl_mono y0 (by omega) i1
  rintro _ rfl
  refine ok_f (by simp only [List.length_map]; omega) (ok_bd (ok_eq hc rfl) ?_)
  rintro _ rfl
  refine ok_f (by simp) (ok_bd (checkSites_ok hf hl hs) ?_)
  rintro _ rfl
  exact ok_f (by simp) (ok_some rfl)
end
theorem eq_rules_Wire (xs : List T_rules_Wire) (h : xs.length ≤ 1000) : Ok (P_slices_Equal_rules_Wire_rules_Wire xs xs) (fun r => r = true) := by
  unfold P_slices_Equal_rules_Wire_rules_Wire
  refine ok_f (by simp) (ok_bs1 (R := fun _ => True) ?_ fun _ _ => ok_some rfl)
  refine ok_lp (fun y => 0 ≤ y ∧ y ≤ xs.length) (fun y => ((xs.length : Int) - y).toNat) ⟨by omega, by omega⟩ (by omega) ?_
  rintro y ⟨y0, y1⟩
  unfold P_slices_Equal_rules_Wire_rules_Wire_L4
  exact ok_ite (fun hlt => ok_ck ⟨y0, hlt⟩ (ok_lv (ok_ck ⟨y0, hlt⟩ (ok_lv (ok_lv (ok_f (by simp) (ok_ar (by omega) (ok_some ⟨⟨by omega, by omega⟩, by omega⟩)))))))) fun hge => ok_some ⟨(), rfl, trivial⟩
theorem eq_rules_Pin (xs : List T_rules_Pin) (h : xs.length ≤ 1000) : Ok (P_slices_Equal_rules_Pin_rules_Pin xs xs) (fun r => r = true) := by
  unfold P_slices_Equal_rules_Pin_rules_Pin
  refine ok_f (by simp) (ok_bs1 (R := fun _ => True) ?_ fun _ _ => ok_some rfl)
  refine ok_lp (fun y => 0 ≤ y ∧ y ≤ xs.length) (fun y => ((xs.length : Int) - y).toNat) ⟨by omega, by omega⟩ (by omega) ?_
  rintro y ⟨y0, y1⟩
  unfold P_slices_Equal_rules_Pin_rules_Pin_L4
  exact ok_ite (fun hlt => ok_ck ⟨y0, hlt⟩ (ok_lv (ok_ck ⟨y0, hlt⟩ (ok_lv (ok_lv (ok_f (by simp) (ok_ar (by omega) (ok_some ⟨⟨by omega, by omega⟩, by omega⟩)))))))) fun hge => ok_some ⟨(), rfl, trivial⟩
theorem eq_floor_Site (xs : List T_floor_Site) (h : xs.length ≤ 1000) : Ok (P_slices_Equal_floor_Site_floor_Site xs xs) (fun r => r = true) := by
  unfold P_slices_Equal_floor_Site_floor_Site
  refine ok_f (by simp) (ok_bs1 (R := fun _ => True) ?_ fun _ _ => ok_some rfl)
  refine ok_lp (fun y => 0 ≤ y ∧ y ≤ xs.length) (fun y => ((xs.length : Int) - y).toNat) ⟨by omega, by omega⟩ (by omega) ?_
  rintro y ⟨y0, y1⟩
  unfold P_slices_Equal_floor_Site_floor_Site_L4
  exact ok_ite (fun hlt => ok_ck ⟨y0, hlt⟩ (ok_lv (ok_ck ⟨y0, hlt⟩ (ok_lv (ok_lv (ok_f (by simp) (ok_ar (by omega) (ok_some ⟨⟨by omega, by omega⟩, by omega⟩)))))))) fun hge => ok_some ⟨(), rfl, trivial⟩
theorem eq_floor_Port (xs : List T_floor_Port) (h : xs.length ≤ 1000) : Ok (P_slices_Equal_floor_Port_floor_Port xs xs) (fun r => r = true) := by
  unfold P_slices_Equal_floor_Port_floor_Port
  refine ok_f (by simp) (ok_bs1 (R := fun _ => True) ?_ fun _ _ => ok_some rfl)
  refine ok_lp (fun y => 0 ≤ y ∧ y ≤ xs.length) (fun y => ((xs.length : Int) - y).toNat) ⟨by omega, by omega⟩ (by omega) ?_
  rintro y ⟨y0, y1⟩
  unfold P_slices_Equal_floor_Port_floor_Port_L4
  exact ok_ite (fun hlt => ok_ck ⟨y0, hlt⟩ (ok_lv (ok_ck ⟨y0, hlt⟩ (ok_lv (ok_lv (ok_f (by simp) (ok_ar (by omega) (ok_some ⟨⟨by omega, by omega⟩, by omega⟩)))))))) fun hge => ok_some ⟨(), rfl, trivial⟩
theorem eq_floor_Block (xs : List T_floor_Block) (h : xs.length ≤ 1000) : Ok (P_slices_Equal_floor_Block_floor_Block xs xs) (fun r => r = true) := by
  unfold P_slices_Equal_floor_Block_floor_Block
  refine ok_f (by simp) (ok_bs1 (R := fun _ => True) ?_ fun _ _ => ok_some rfl)
  refine ok_lp (fun y => 0 ≤ y ∧ y ≤ xs.length) (fun y => ((xs.length : Int) - y).toNat) ⟨by omega, by omega⟩ (by omega) ?_
  rintro y ⟨y0, y1⟩
  unfold P_slices_Equal_floor_Block_floor_Block_L4
  exact ok_ite (fun hlt => ok_ck ⟨y0, hlt⟩ (ok_lv (ok_ck ⟨y0, hlt⟩ (ok_lv (ok_lv (ok_f (by simp) (ok_ar (by omega) (ok_some ⟨⟨by omega, by omega⟩, by omega⟩)))))))) fun hge => ok_some ⟨(), rfl, trivial⟩
theorem eq_floor_Wall (xs : List T_floor_Wall) (h : xs.length ≤ 1000) : Ok (P_slices_Equal_floor_Wall_floor_Wall xs xs) (fun r => r = true) := by
  unfold P_slices_Equal_floor_Wall_floor_Wall
  refine ok_f (by simp) (ok_bs1 (R := fun _ => True) ?_ fun _ _ => ok_some rfl)
  refine ok_lp (fun y => 0 ≤ y ∧ y ≤ xs.length) (fun y => ((xs.length : Int) - y).toNat) ⟨by omega, by omega⟩ (by omega) ?_
  rintro y ⟨y0, y1⟩
  unfold P_slices_Equal_floor_Wall_floor_Wall_L4
  exact ok_ite (fun hlt => ok_ck ⟨y0, hlt⟩ (ok_lv (ok_ck ⟨y0, hlt⟩ (ok_lv (ok_lv (ok_f (by simp) (ok_ar (by omega) (ok_some ⟨⟨by omega, by omega⟩, by omega⟩)))))))) fun hge => ok_some ⟨(), rfl, trivial⟩
theorem writes_ok : Ok P_maskkeep4_writes (fun r => r = true) := ⟨true, by decide +kernel, rfl⟩
theorem LayfmtBack_ok {L : List Int} (hL : Strm L) : Ok (P_maskkeep4_LayfmtBack L) (fun r => r = true) := by
  unfold P_maskkeep4_LayfmtBack
  refine ok_bd (Layout_ok hL (k := 0) (by omega) (by omega)) ?_
  rintro ⟨l, k1⟩ ⟨hl, q1, q2⟩
  simp only at hl q1 q2
  have e1 := hl.wireL
  have e3 := hl.pinL
  refine ok_bd (LText_ok hl) ?_
  rintro _ ⟨rfl, -⟩
  refine ok_bd (LRead_ok hl) ?_
  rintro _ rfl
  refine ok_bd (LText_ok hl) ?_
  rintro _ ⟨rfl, -⟩
  refine ok_bd writes_ok ?_
  rintro _ rfl
  refine ok_lv (ok_lv (ok_lv (ok_lv (ok_lv (ok_bd (R := fun r => r = true) (ok_gd (fun _ => eq_rules_Wire _ (by simp only; omega)) fun hq => by simp at hq) ?_)))))
  rintro _ rfl
  refine ok_lv (ok_bd (R := fun r => r = true) (ok_gd (fun _ => eq_rules_Pin _ (by simp only; omega)) fun hq => by simp at hq) ?_)
  rintro _ rfl
  refine ok_lv (ok_f (by simp) (ok_bd (Floor_ok hL (by simp only; omega) (by simp only; omega)) ?_))
  rintro ⟨f, k2⟩ ⟨hf, q3, q4⟩
  simp only at hf q3 q4
  have hR := hf.R
  have hS := hf.S
  refine ok_bd (hL.next (by simp only; omega) (by omega)) ?_
  rintro ⟨m, k3⟩ ⟨m0, m1, -, rfl⟩
  have m1 := m1 (by omega)
  simp only at m0 m1
  refine ok_bd (R := fun r => r.length ≤ 5 ∧ All (fun _ s => SiteN f.Rows f.Sites s) r) ?_ ?_
  · refine ok_lp (fun s => (0 ≤ s.2.1 ∧ s.2.1 ≤ m) ∧ ((s.1.length : Int) = s.2.1 ∧ All (fun _ s => SiteN f.Rows f.Sites s) s.1) ∧ 0 ≤ s.2.2 ∧ s.2.2 ≤ 2000 + 2 * s.2.1) (fun s => (m - s.2.1).toNat) ⟨⟨by simp, by simp only; omega⟩, ⟨by simp, All.nil⟩, by simp only; omega, by simp only; omega⟩ (by simp only; omega) ?_
    rintro ⟨xs, y, q⟩ ⟨⟨z0, z1⟩, ⟨z2, z3⟩, z4, z5⟩
    simp only at z0 z1 z2 z3 z4 z5
    unfold P_maskkeep4_LayfmtBack_L11
    dsimp only
    refine ok_ite (fun hlt => ?_) fun hge => ok_some ⟨by omega, z3⟩
    refine ok_bd (hL.next (by omega) (by omega)) ?_
    rintro ⟨a, q5⟩ ⟨a0, a1, -, rfl⟩
    have a1 := a1 (by omega)
    refine ok_bd (hL.next (by simp only; omega) (by omega)) ?_
    rintro ⟨b, q5⟩ ⟨b0, b1, -, rfl⟩
    have b1 := b1 (by omega)
    simp only at a0 a1 b0 b1
    exact ok_lv (ok_ck (by simp only [apOk, List.length_append, List.length_singleton]; omega) (ok_ar (by omega) (ok_some ⟨⟨⟨by simp only; omega, by simp only; omega⟩, ⟨by simp only [List.length_append, List.length_singleton]; omega, z3.snoc ⟨⟨a0, a1⟩, b0, b1⟩⟩, by simp only; omega, by simp only; omega⟩, by simp only; omega⟩)))
  rintro ss ⟨hl5, hss⟩
  obtain ⟨c, hc, -⟩ := FCheck_any hf
  by_cases hc0 : c = 0
  · subst hc0
    refine ok_bd (FText_ok hf hl5 hss hc) ?_
    rintro _ ⟨rfl, -⟩
    refine ok_f (by simp) (ok_bd (FRead_ok hf hl5 hss hc) ?_)
    rintro _ rfl
    have e5 := hf.portL
    have e6 := hf.blockL
    have e7 := hf.wallL
    refine ok_lv (ok_bd (R := fun r => r = true) (ok_gd (fun _ => eq_floor_Site _ (by simp only; omega)) fun hq => by simp at hq) ?_)
    rintro _ rfl
    refine ok_lv (ok_bd (R := fun r => r = true) (ok_gd (fun _ => eq_floor_Port _ (by simp only; omega)) fun hq => by simp at hq) ?_)
    rintro _ rfl
    refine ok_lv (ok_bd (R := fun r => r = true) (ok_gd (fun _ => eq_floor_Block _ (by simp only; omega)) fun hq => by simp at hq) ?_)
    rintro _ rfl
    refine ok_lv (ok_bd (R := fun r => r = true) (ok_gd (fun _ => eq_floor_Wall _ (by simp only; omega)) fun hq => by simp at hq) ?_)
    rintro _ rfl
    exact ok_lv (ok_some (by simp))
  · refine ok_bd (R := fun r => r = ((⟨#[]⟩ : ByteArray), c)) ?_ ?_
    · unfold P_layfmt_Floor
      refine ok_bd (ok_eq hc rfl) ?_
      rintro _ rfl
      exact ok_t hc0 (ok_some rfl)
    rintro _ rfl
    refine ok_t hc0 (ok_bd (ok_eq hc rfl) ?_)
    rintro _ rfl
    exact ok_some (by simp)
end Go.Proofs.YtlolchgeedegdaaDoor.X
