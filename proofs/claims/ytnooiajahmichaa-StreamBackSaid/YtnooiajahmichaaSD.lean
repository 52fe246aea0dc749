/- The order of tables and wires of a configuration of a stream. Plain. -/
import Derived.Test.YtnooiajahmichaaSC
namespace Go.Proofs.Ytnooiajahmichaa.X
open Go Go.RowKit
set_option linter.unusedVariables false
theorem tdivp {a b : Int} (h : 0 ≤ a) : Int.tdiv a b = a / b := Int.tdiv_eq_ediv_of_nonneg h
theorem tmodp {a b : Int} (h : 0 ≤ a) : Int.tmod a b = a % b := Int.tmod_eq_emod_of_nonneg h
/-- How far a tile lies from the north-west. -/
def rkT (C tile : Int) : Int := tile / C + tile % C
theorem rkT_nn {C tile : Int} (hC : 1 ≤ C ∧ C ≤ 3) (h : 0 ≤ tile) : 0 ≤ rkT C tile := by
  unfold rkT
  rcases (by omega : C = 1 ∨ C = 2 ∨ C = 3) with e | e | e <;> subst e <;> omega
theorem rkT_west {C tile : Int} (hC : 1 ≤ C ∧ C ≤ 3) (h : 0 ≤ tile) (hc : 0 < tile % C) : rkT C (tile - 1) = rkT C tile - 1 ∧ 0 ≤ tile - 1 := by
  unfold rkT
  rcases (by omega : C = 1 ∨ C = 2 ∨ C = 3) with e | e | e <;> subst e <;> omega
theorem rkT_north {C tile : Int} (hC : 1 ≤ C ∧ C ≤ 3) (h : 0 ≤ tile) (hc : 0 < tile / C) : rkT C (tile - C) = rkT C tile - 1 ∧ 0 ≤ tile - C := by
  unfold rkT
  rcases (by omega : C = 1 ∨ C = 2 ∨ C = 3) with e | e | e <;> subst e <;> omega
theorem rkT_le {R C tile : Int} (hR : 1 ≤ R ∧ R ≤ 3) (hC : 1 ≤ C ∧ C ≤ 3) (h : 0 ≤ tile ∧ tile < R * C) : rkT C tile ≤ 4 := by
  unfold rkT
  rcases (by omega : C = 1 ∨ C = 2 ∨ C = 3) with e | e | e <;> subst e <;> omega
/-- The number of a wire. -/
def wireN (T tile side track : Int) : Int := (tile * 4 + side) * T + track
theorem wireN_tile {T tile side track : Int} (hT : 2 ≤ T ∧ T ≤ 3) (hs : 0 ≤ side ∧ side < 4) (ht : 0 ≤ track ∧ track < T) (h : 0 ≤ tile) : 0 ≤ wireN T tile side track ∧ wireN T tile side track / T / 4 = tile ∧ wireN T tile side track < (tile + 1) * 4 * T := by
  unfold wireN
  rcases (by omega : T = 2 ∨ T = 3) with e | e <;> subst e <;> omega
section
variable {c : T_array_Config}
/-- How many tiles, and wires. -/
def ConfOk.M (_ : ConfOk c) : Int := c.Rows * c.Cols
theorem ConfOk.Mb (h : ConfOk c) : 1 ≤ c.Rows * c.Cols ∧ c.Rows * c.Cols ≤ 9 := by
  have h1 := h.rows
  have h2 := h.cols
  rcases (by omega : c.Cols = 1 ∨ c.Cols = 2 ∨ c.Cols = 3) with e | e | e <;> rw [e] <;> omega
def wiresN (c : T_array_Config) : Int := (c.Tiles.length : Int) * 4 * c.Tracks
def rk (c : T_array_Config) (k : Int) : Int := if k < wiresN c then 2 * rkT c.Cols (k / c.Tracks / 4) + 1 else 2 * rkT c.Cols (k - wiresN c)
theorem beside_ok (h : ConfOk c) {tile side : Int} (ht : 0 ≤ tile ∧ tile < c.Tiles.length) (hs : side = 0 ∨ side = 3) : Ok (P_array_Config_beside c tile side) (fun r => r = -1 ∨ (0 ≤ r ∧ r < c.Tiles.length ∧ rkT c.Cols r = rkT c.Cols tile - 1)) := by
  have h1 := h.rows
  have h2 := h.cols
  have hM := h.Mb
  have hL := h.tilesL
  have d1 := @tdivp tile c.Cols ht.1
  have d2 := @tmodp tile c.Cols ht.1
  have q0 : 0 ≤ tile / c.Cols := Int.ediv_nonneg ht.1 (by omega)
  have q1 : tile / c.Cols ≤ tile := Int.ediv_le_self _ ht.1
  have q2 := Int.emod_nonneg tile (b := c.Cols) (by omega)
  unfold P_array_Config_beside
  rw [d1, d2]
  refine ok_ck (by omega) (ok_ar (by omega) (ok_ck (by omega) (ok_lv (ok_lv (ok_ite (fun hq => ?_) fun hq => ?_)))))
  · simp only [Bool.and_eq_true, decide_eq_true_eq] at hq
    have := rkT_north h.cols ht.1 hq.2
    exact ok_ar (by omega) (ok_some (.inr ⟨this.2, by omega, this.1⟩))
  refine ok_ck (fun _ => by omega) (ok_lv (ok_lv (ok_f (by simp; omega) (ok_ck (fun _ => by omega) (ok_lv (ok_lv (ok_f (by simp; omega) (ok_lv (ok_ite (fun hq2 => ?_) fun hq2 => ok_some (.inl rfl))))))))))
  simp only [Bool.and_eq_true, decide_eq_true_eq] at hq2
  have := rkT_west h.cols ht.1 hq2.2
  exact ok_ar (by omega) (ok_some (.inr ⟨this.2, by omega, this.1⟩))
theorem Index_ok {ps : List T_array_Pad} {v : T_array_Pad} (hl : ps.length ≤ 1000) : Ok (P_slices_Index_array_Pad_array_Pad ps v) (fun r => (r = -1 ∧ ∀ i, inb i ps.length → gt ps i ≠ v) ∨ (0 ≤ r ∧ r < ps.length ∧ gt ps r = v)) := by
  unfold P_slices_Index_array_Pad_array_Pad
  refine ok_bs (R := fun o => match o with | .inl _ => ∀ i, inb i ps.length → gt ps i ≠ v | .inr r => 0 ≤ r ∧ r < ps.length ∧ gt ps r = v) ?_ (fun x hx => ok_some (.inl ⟨rfl, hx⟩)) fun y hy => ok_some (.inr hy)
  refine ok_lp (fun y => 0 ≤ y ∧ y ≤ ps.length ∧ ∀ i, 0 ≤ i → i < y → gt ps i ≠ v) (fun y => ((ps.length : Int) - y).toNat) ⟨by omega, by omega, fun i h0 h1 => by omega⟩ (by omega) ?_
  rintro y ⟨y0, y1, y2⟩
  unfold P_slices_Index_array_Pad_array_Pad_L2
  refine ok_ite (fun hlt => ok_ck ⟨y0, hlt⟩ (ok_lv (ok_lv (ok_ite (fun hq => ok_some ?_) fun hq => ok_ar (by omega) (ok_some ⟨⟨by omega, by omega, fun i h0 h1 => ?_⟩, by omega⟩))))) fun hge => ok_some fun i hi => y2 i hi.1 (by have := hi.2; omega)
  · simp only [Bool.and_eq_true, beq_iff_eq, and_true] at hq
    obtain ⟨a, b, c, d⟩ := hq
    refine ⟨y0, hlt, ?_⟩
    generalize gt ps y = g at *
    cases g; cases v; simp_all
  · by_cases e : i = y
    · subst e
      intro he
      apply hq
      rw [he]; simp
    · exact y2 i h0 (by omega)
theorem into_ok (h : ConfOk c) {tile side track : Int} (ht : 0 ≤ tile ∧ tile < c.Tiles.length) (hs : side = 0 ∨ side = 3) (hk : 0 ≤ track ∧ track < c.Tracks) :
    Ok (P_array_Config_into c tile side track) (fun w => (w < 0 ∧ -1000 ≤ w) ∨ (0 ≤ w ∧ w < wiresN c ∧ rk c w = 2 * rkT c.Cols tile - 1)) := by
  have h1 := h.rows
  have h2 := h.cols
  have h3 := h.tracks
  have hM := h.Mb
  have hL := h.tilesL
  have hi := h.inL
  unfold P_array_Config_into
  refine ok_bd (beside_ok h ht hs) ?_
  rintro t2 hr
  refine ok_ite (fun h0 => ?_) fun h0 => ?_
  · rcases hr with hr | ⟨r0, r1, r2⟩
    · omega
    have hm : Int.tmod (side + 2) 4 = (side + 2) % 4 := tmodp (by omega)
    refine ok_ar (by omega) (ok_ck (by omega) (ok_lv (ok_bd (R := fun w => w = wireN c.Tracks t2 ((side + 2) % 4) track) ?_ ?_)))
    · unfold P_array_Config_wire wireN
      rw [hm]
      have b0 : 0 ≤ (t2 * 4 + (side + 2) % 4) * c.Tracks := Int.mul_nonneg (by omega) (by omega)
      have b1 : (t2 * 4 + (side + 2) % 4) * c.Tracks ≤ 100 * 3 := Int.mul_le_mul (by omega) (by omega) (by omega) (by omega)
      exact ok_ar (by omega) (ok_ar (by omega) (ok_ar (by omega) (ok_ar (by omega) (ok_some rfl))))
    · rintro _ rfl
      have hw := wireN_tile h3 (side := (side + 2) % 4) (by omega) hk r0
      have hlt : wireN c.Tracks t2 ((side + 2) % 4) track < wiresN c := by
        unfold wiresN
        have : (t2 + 1) * 4 * c.Tracks ≤ (c.Tiles.length : Int) * 4 * c.Tracks := Int.mul_le_mul_of_nonneg_right (by omega) (by omega)
        omega
      refine ok_some (.inr ⟨hw.1, hlt, ?_⟩)
      unfold rk
      rw [if_pos hlt, hw.2.1, r2]; omega
  · have d1 := @tdivp tile c.Cols ht.1
    have d2 := @tmodp tile c.Cols ht.1
    have q0 : 0 ≤ tile / c.Cols := Int.ediv_nonneg ht.1 (by omega)
    have q1 : tile / c.Cols ≤ tile := Int.ediv_le_self _ ht.1
    rw [d1, d2]
    refine ok_ck (by omega) (ok_ar (by omega) (ok_ck (by omega) (ok_lv (ok_bd (Index_ok (by omega)) ?_))))
    intro r hr
    refine ok_bd (R := fun o => 0 ≤ o ∧ o ≤ 10) (ok_ite (fun _ => ok_some (by omega)) fun _ => ok_some (by rcases hr with ⟨_, _⟩ | ⟨_, _, _⟩ <;> omega)) fun o ho => ok_ar (by omega) (ok_some (.inl (by omega)))
/-- What a node depends on. -/
def Deps (c : T_array_Config) (k : Int) (l : List Int) : Prop := l.length ≤ 4 ∧ ∀ w ∈ l, (w < 0 ∧ -1000 ≤ w) ∨ (0 ≤ w ∧ w < wiresN c + c.Tiles.length ∧ rk c w < rk c k)
theorem Deps.nil (k : Int) : Deps c k [] := ⟨by simp, fun w hw => by simp at hw⟩
end
end Go.Proofs.Ytnooiajahmichaa.X
