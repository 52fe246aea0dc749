/- floor.Check takes what floor.Plan returns; maskkeep4.FloorPlans answers true. Plain. -/
import Derived.Test.YtclhfemcinibmaaDoorFB
namespace Go.Proofs.YtclhfemcinibmaaDoor.X
open Go Go.RowKit
set_option linter.unusedVariables false
set_option linter.unusedSimpArgs false
set_option linter.unusedSectionVars false
theorem vn_dec : ((List.range 10).all fun k => decide (P_floor_validName (nm 105 (k : Int)) = some true ∧ P_floor_validName (nm 111 (k : Int)) = some true)) = true := by decide +kernel
theorem vn_nil : P_floor_validName ⟨#[]⟩ = some true := by decide +kernel
theorem nm_dec : ((List.range 10).all fun i => (List.range 10).all fun j => decide ((nm 105 (i : Int) ≠ nm 105 (j : Int) ∧ nm 111 (i : Int) ≠ nm 111 (j : Int)) ∨ i = j)) = true := by decide +kernel
theorem nm_nil : ((List.range 10).all fun i => decide (nm 105 (i : Int) ≠ ⟨#[]⟩)) = true := by decide +kernel
theorem vn_ok {k : Int} (h : 0 ≤ k ∧ k < 10) : P_floor_validName (nm 105 k) = some true ∧ P_floor_validName (nm 111 k) = some true := by
  obtain ⟨n, rfl⟩ := Int.eq_ofNat_of_zero_le h.1
  have := List.all_eq_true.1 vn_dec n (List.mem_range.2 (by omega))
  simpa only [decide_eq_true_eq] using this
theorem nm_ne {i j : Int} (hi : 0 ≤ i ∧ i < 10) (hj : 0 ≤ j ∧ j < 10) (hne : i ≠ j) : nm 105 i ≠ nm 105 j ∧ nm 111 i ≠ nm 111 j := by
  obtain ⟨a, rfl⟩ := Int.eq_ofNat_of_zero_le hi.1
  obtain ⟨b, rfl⟩ := Int.eq_ofNat_of_zero_le hj.1
  have := List.all_eq_true.1 (List.all_eq_true.1 nm_dec a (List.mem_range.2 (by omega))) b (List.mem_range.2 (by omega))
  simp only [decide_eq_true_eq] at this
  rcases this with h | h
  · exact h
  · omega
theorem nm_nonil {i : Int} (hi : 0 ≤ i ∧ i < 10) : nm 105 i ≠ ⟨#[]⟩ := by
  obtain ⟨a, rfl⟩ := Int.eq_ofNat_of_zero_le hi.1
  have := List.all_eq_true.1 nm_nil a (List.mem_range.2 (by omega))
  simpa only [decide_eq_true_eq] using this
section
variable {ins outs : Int} (hi : 1 ≤ ins ∧ ins ≤ 9) (ho : 1 ≤ outs ∧ outs ≤ 9)
include hi ho
theorem NameP.valid {i : Int} {p : T_floor_Port} (h0 : 0 ≤ i) (h : NameP ins outs i p) : P_floor_validName p.Name = some true := by
  rcases h with ⟨a, b, -⟩ | ⟨a, a2, b, -⟩ | ⟨a, a2, b, -⟩ <;> rw [b]
  · exact (vn_ok ⟨h0, by omega⟩).1
  · exact (vn_ok ⟨by omega, by omega⟩).2
  · exact vn_nil
theorem NameP.clock {i : Int} {p : T_floor_Port} (h0 : 0 ≤ i) (h : NameP ins outs i p) : (decide (p.Name = (⟨#[]⟩ : ByteArray)) && p.Out) = false := by
  rcases h with ⟨a, b, c⟩ | ⟨a, a2, b, c⟩ | ⟨a, a2, b, c⟩
  · rw [c]; simp
  · have : P_floor_validName (nm 111 (i - ins)) = some true := (vn_ok ⟨by omega, by omega⟩).2
    rw [b]
    have hs : nm 111 (i - ins) ≠ ⟨#[]⟩ := by
      intro e
      have := congrArg ByteArray.size e
      unfold nm at this
      rw [ByteArray.size_append] at this
      have h1 : (⟨#[111]⟩ : ByteArray).size = 1 := rfl
      have h2 : (⟨#[]⟩ : ByteArray).size = 0 := rfl
      omega
    simp [hs]
  · rw [c]; simp
theorem NameP.apart {i j : Int} {p q : T_floor_Port} (h0 : 0 ≤ j) (hji : j < i) (h : NameP ins outs i p) (k : NameP ins outs j q) : (decide (q.Name = p.Name) && (q.Out == p.Out)) = false := by
  rcases h with ⟨a, b, c⟩ | ⟨a, a2, b, c⟩ | ⟨a, a2, b, c⟩ <;> rcases k with ⟨d, e, f⟩ | ⟨d, d2, e, f⟩ | ⟨d, d2, e, f⟩ <;> rw [b, c, e, f]
  · simp [(nm_ne (i := j) (j := i) ⟨by omega, by omega⟩ ⟨by omega, by omega⟩ (by omega)).1]
  · simp
  · omega
  · simp
  · simp [(nm_ne (i := j - ins) (j := i - ins) ⟨by omega, by omega⟩ ⟨by omega, by omega⟩ (by omega)).2]
  · omega
  · simp [nm_nonil (i := j) ⟨by omega, by omega⟩]
  · simp
  · omega
theorem checkPort_ok {f : T_floor_Floor} {L need most : Int} {ns : List T_floor_Port} (hn : 1 ≤ ns.length ∧ ns.length ≤ 19) (hf : FloorOk f L need most ns) (hN : All (NameP ins outs) ns) {i : Int} (h0 : 0 ≤ i) (h1 : i < f.Ports.length) : Ok (P_floor_checkPort f i) (fun r => r = 0) := by
  have f1 := hf.rows
  have f2 := hf.sites
  have f3 := hf.portsL
  obtain ⟨p1, p2, p3⟩ := hf.port i ⟨h0, h1⟩
  have n1 := hN i ⟨h0, by omega⟩
  have pN : NameP ins outs i (gt f.Ports i) := by
    unfold NameP; rw [p1, p2]; exact n1
  have u0 : 0 ≤ (2 * (4 * f.Sites + 8 + (4 * f.Rows + 8)) - 4) * i / (ns.length : Int) := Int.ediv_nonneg (Int.mul_nonneg (by omega) h0) (by omega)
  have u1 := step_hi (P := 2 * (4 * f.Sites + 8 + (4 * f.Rows + 8)) - 4) (n := ns.length) (i := i) (by omega) (by omega) (by omega)
  unfold P_floor_checkPort
  refine ok_ck ⟨h0, h1⟩ (ok_lv (ok_bd (R := fun r => r = (4 * f.Sites + 8, 4 * f.Rows + 8)) ?_ ?_))
  · unfold P_floor_Size
    exact ok_ar (by omega) (ok_ar (by omega) (ok_ar (by omega) (ok_ar (by omega) (ok_some rfl))))
  rintro _ rfl
  dsimp only
  refine ok_bd (R := fun r => r = true) ⟨true, NameP.valid hi ho h0 pN, rfl⟩ ?_
  rintro _ rfl
  refine ok_f (by simp) (ok_lv (ok_f (by rw [NameP.clock hi ho h0 pN]; simp) ?_))
  have hX : 0 ≤ (gt f.Ports i).X ∧ (gt f.Ports i).X ≤ 4 * f.Sites + 7 ∧ 0 ≤ (gt f.Ports i).Y ∧ (gt f.Ports i).Y ≤ 4 * f.Rows + 7 ∧ ((gt f.Ports i).X = 0 ∨ (gt f.Ports i).Y = 0 ∨ (gt f.Ports i).X = 4 * f.Sites + 7 ∨ (gt f.Ports i).Y = 4 * f.Rows + 7) := by
    generalize (2 * (4 * f.Sites + 8 + (4 * f.Rows + 8)) - 4) * i / (ns.length : Int) = t at *
    rcases p3 with q | q | q | q <;> omega
  obtain ⟨x0, x1, y0, y1, hb⟩ := hX
  refine ok_ar (by omega) (ok_bd (R := fun r => r = true) ?_ ?_)
  · unfold P_floor_within
    exact ok_lv (ok_some (by simp; omega))
  rintro _ rfl
  refine ok_ck (fun _ => by omega) (ok_lv (ok_bd (R := fun r => r = true) ?_ ?_))
  · refine ok_gd (fun _ => ?_) (fun h => by simp at h)
    unfold P_floor_within
    exact ok_lv (ok_some (by simp; omega))
  rintro _ rfl
  refine ok_lv (ok_ck (fun _ => by omega) (ok_lv (ok_lv (ok_lv (ok_ck (fun _ => by omega) (ok_lv (ok_lv (ok_lv (ok_f ?_ ?_)))))))))
  · simp only [Bool.or_eq_true, Bool.and_eq_true, decide_eq_true_eq, Bool.not_true, Bool.false_eq_true, or_self, false_or]; omega
  refine ok_ck ⟨by omega, h0, by omega⟩ (ok_lv (ok_bs1 (R := fun _ => True) ?_ fun _ _ => ok_bs1 (R := fun _ => True) ?_ fun _ _ => ok_some rfl))
  · have hsl := sub_len f.Ports h0 (by omega : i ≤ f.Ports.length)
    refine ok_lp (fun z => 0 ≤ z ∧ z ≤ i) (fun z => (i - z).toNat) ⟨by omega, by omega⟩ (by omega) ?_
    rintro z ⟨z0, z1⟩
    unfold P_floor_checkPort_L10
    refine ok_ite (fun hz => ?_) fun hz => ok_some ⟨(), rfl, trivial⟩
    rw [hsl] at hz
    obtain ⟨q1, q2, q3⟩ := hf.port z ⟨z0, by omega⟩
    have n2 := hN z ⟨z0, by omega⟩
    have qN : NameP ins outs z (gt f.Ports z) := by
      unfold NameP; rw [q1, q2]; exact n2
    have v0 : 0 ≤ (2 * (4 * f.Sites + 8 + (4 * f.Rows + 8)) - 4) * z / (ns.length : Int) := Int.ediv_nonneg (Int.mul_nonneg (by omega) z0) (by omega)
    have v1 := step_lt (P := 2 * (4 * f.Sites + 8 + (4 * f.Rows + 8)) - 4) (n := ns.length) (j := z) (i := i) (by omega) (by omega) (by omega)
    have hgap := PortAt.apart (by omega) (by omega) v0 v1 u1 p3 q3
    have hQ : 0 ≤ (gt f.Ports z).X ∧ (gt f.Ports z).X ≤ 4 * f.Sites + 7 ∧ 0 ≤ (gt f.Ports z).Y ∧ (gt f.Ports z).Y ≤ 4 * f.Rows + 7 := by
      generalize (2 * (4 * f.Sites + 8 + (4 * f.Rows + 8)) - 4) * i / (ns.length : Int) = t at *
      generalize (2 * (4 * f.Sites + 8 + (4 * f.Rows + 8)) - 4) * z / (ns.length : Int) = u at *
      rcases q3 with q | q | q | q <;> omega
    refine ok_ck ⟨z0, by omega⟩ ?_
    rw [gt_sub0 f.Ports z0 hz]
    refine ok_lv (ok_lv (ok_f (by rw [NameP.apart hi ho z0 hz pN qN]; simp) (ok_ar (by omega) (ok_ar (by omega) (ok_ar (by omega) (ok_ar (by omega) (ok_lv (ok_f (by omega) (ok_ar (by omega) (ok_some ⟨⟨by omega, by omega⟩, by omega⟩))))))))))
  · rw [show P_floor_checkPort_L18 f (gt f.Ports i) = P_floor_checkPort_L18 f (gt f.Ports i) from rfl]
    refine ok_lp (fun z => z = 0) (fun z => 0) rfl (by omega) ?_
    rintro _ rfl
    unfold P_floor_checkPort_L18
    rw [hf.walls]
    exact ok_f (by simp) (ok_some ⟨(), rfl, trivial⟩)
theorem FCheck_ok {f : T_floor_Floor} {L need most : Int} {ns : List T_floor_Port} (hL : 2 ≤ L ∧ L ≤ 6) (hn : 1 ≤ ns.length ∧ ns.length ≤ 19) (hf : FloorOk f L need most ns) (hN : All (NameP ins outs) ns) : Ok (P_floor_Check f) (fun r => r = 0) := by
  have f1 := hf.rows
  have f2 := hf.sites
  have f3 := hf.portsL
  have f4 := hf.layers
  unfold P_floor_Check
  refine ok_bd (R := fun r => r = true) ?_ ?_
  · unfold P_floor_within
    exact ok_lv (ok_some (by simp; omega))
  rintro _ rfl
  refine ok_bd (R := fun r => r = true) ?_ ?_
  · refine ok_gd (fun _ => ?_) (fun h => by simp at h)
    unfold P_floor_within
    exact ok_lv (ok_some (by simp; omega))
  rintro _ rfl
  refine ok_lv (ok_bd (R := fun r => r = true) ?_ ?_)
  · refine ok_gd (fun _ => ?_) (fun h => by simp at h)
    unfold P_floor_within
    exact ok_lv (ok_some (by simp; omega))
  rintro _ rfl
  refine ok_lv (ok_f (by simp) (ok_lv (ok_lv (ok_f ?_ ?_))))
  · rw [hf.blocks, hf.walls]; simp; omega
  refine ok_bs1 (R := fun _ => True) ?_ fun _ _ => ok_bd (R := fun _ => True) ?_ fun s _ => ok_bs1 (R := fun _ => True) ?_ fun _ _ => ok_bs1 (R := fun _ => True) ?_ fun _ _ => ok_some rfl
  · refine ok_lp (fun z => z = 0) (fun z => 0) rfl (by omega) ?_
    rintro _ rfl
    unfold P_floor_Check_L6
    rw [hf.blocks]
    exact ok_f (by simp) (ok_some ⟨(), rfl, trivial⟩)
  · unfold P_floor_Size
    exact ok_ar (by omega) (ok_ar (by omega) (ok_ar (by omega) (ok_ar (by omega) (ok_some trivial))))
  · refine ok_lp (fun z => z = 0) (fun z => 0) rfl (by omega) ?_
    rintro _ rfl
    unfold P_floor_Check_L13
    rw [hf.walls]
    exact ok_f (by simp) (ok_some ⟨(), rfl, trivial⟩)
  · refine ok_lp (fun z => 0 ≤ z ∧ z ≤ f.Ports.length) (fun z => ((f.Ports.length : Int) - z).toNat) ⟨by omega, by omega⟩ (by omega) ?_
    rintro z ⟨z0, z1⟩
    unfold P_floor_Check_L19
    refine ok_ite (fun hz => ok_bd (checkPort_ok hi ho hn hf hN z0 hz) ?_) fun hz => ok_some ⟨(), rfl, trivial⟩
    rintro _ rfl
    exact ok_f (by simp) (ok_ar (by omega) (ok_some ⟨⟨by omega, by omega⟩, by omega⟩))
end
theorem floors_ok : Ok P_maskkeep4_floors (fun r => r = true) := ⟨true, by decide +kernel, rfl⟩
theorem L10_eq (xa : List Int) : P_maskkeep4_FloorPlans_L10 xa = P_floor_Plan_L8 xa := by unfold P_maskkeep4_FloorPlans_L10 P_floor_Plan_L8; rfl
theorem L15_eq (r : List T_api_Cell × Int) : P_maskkeep4_FloorPlans_L15 r = P_floor_Plan_L13 r.1 := by unfold P_maskkeep4_FloorPlans_L15 P_floor_Plan_L13; rfl
theorem FloorPlans_ok {L : List Int} (hL : Strm L) {layers : Int} (hy : I64 layers) : Ok (P_maskkeep4_FloorPlans L layers) (fun r => r = true) := by
  unfold P_maskkeep4_FloorPlans
  refine ok_bd (LayLib_ok hL (by omega) (by omega)) ?_
  rintro ⟨l, k1⟩ ⟨hl, k1a, k1b⟩
  simp only at hl k1a k1b
  refine ok_bd (hL.range (by simp only; omega) (by omega) (by omega) (by omega)) ?_
  rintro ⟨ins, k2⟩ ⟨i0, i1, rfl⟩
  refine ok_bd (hL.next (by simp only; omega) (by omega)) ?_
  rintro ⟨flops, k3⟩ ⟨f0, f1, -, rfl⟩
  refine ok_bd (hL.next (by simp only; omega) (by omega)) ?_
  rintro ⟨gates, k4⟩ ⟨g0, g1, -, rfl⟩
  refine ok_bd (hL.range (by simp only; omega) (by omega) (by omega) (by omega)) ?_
  rintro ⟨outs, k5⟩ ⟨o0, o1, rfl⟩
  simp only at i0 i1 f0 f1 g0 g1 o0 o1
  have f1 := f1 (by omega)
  have g1 := g1 (by omega)
  refine ok_bd (Placed_ok hL (by simp only; omega) (by simp only; omega) hl (by simp only; omega) (by simp only; omega) (by simp only; omega) (by simp only; omega)) ?_
  rintro ⟨n, k6⟩ ⟨hn, -⟩
  simp only at hn
  refine ok_bd (Below_ok layers hy (by omega)) ?_
  rintro b ⟨b0, b1, -⟩
  have b1 := b1 (by omega)
  refine ok_ar' (by omega) fun y ey => ?_
  have hi : 1 ≤ ins ∧ ins ≤ 9 := ⟨i0, i1⟩
  have hf : 0 ≤ flops ∧ flops < 12 := ⟨f0, f1⟩
  have hg : 0 ≤ gates ∧ gates < 60 := ⟨g0, g1⟩
  have ho : 1 ≤ outs ∧ outs ≤ 9 := ⟨o0, o1⟩
  have hfl := hn.flopL
  obtain ⟨xa, e1, a1, a2⟩ := Areas_ok hl hn hi hf hg ho
  obtain ⟨need, e2, n1, n2⟩ := sum_ok a2 (by omega) (x := 4 * (n.Flops.length : Int)) (by omega)
  obtain ⟨most, e3, m1, m2⟩ := most_ok hl
  obtain ⟨ns, e4, s1, s2, s3⟩ := FNames_ok hl hn hi hf hg ho
  refine ok_bd (Plan_ok hl hn hi hf hg ho (by omega) e1 e2 e3 e4 (by omega) (by omega) ⟨m1, m2⟩) ?_
  rintro ⟨f, e⟩ ⟨he, hF⟩
  simp only at he hF
  subst he
  refine ok_bd floors_ok ?_
  rintro _ rfl
  refine ok_lv (ok_bd (R := fun r => r = 0) (ok_gd (fun _ => FCheck_ok hi ho (by omega) (by omega) hF s3) (fun h => by simp at h)) ?_)
  rintro _ rfl
  refine ok_lv (ok_lv (ok_ck (fun _ => by simp only [hF.blocks, hF.walls]; decide) (ok_lv (ok_lv (ok_f ?_ ?_)))))
  · have := hF.layers
    simp [hF.blocks, hF.walls, this]
  refine ok_ar (by simp only; omega) (ok_bd (R := fun r => xa = r) ⟨xa, e1, rfl⟩ ?_)
  rintro _ rfl
  rw [L10_eq, L15_eq]
  refine ok_bd (R := fun r => need = r) ⟨need, e2, rfl⟩ ?_
  rintro _ rfl
  refine ok_bd (R := fun r => most = r) ⟨most, e3, rfl⟩ ?_
  rintro _ rfl
  refine ok_bd (R := fun r => ns = r) ⟨ns, e4, rfl⟩ ?_
  rintro _ rfl
  have f1 := hF.rows
  have f2 := hF.sites
  have f3 := hF.portsL
  have f4 := hF.room
  have c0 : 0 ≤ f.Rows * f.Sites := Int.mul_nonneg (by omega) (by omega)
  have c1 : f.Rows * f.Sites ≤ 20 * 40 := Int.mul_le_mul (by omega) (by omega) (by omega) (by omega)
  have p0 : 0 ≤ f.Rows * (most - 1) := Int.mul_nonneg (by omega) (by omega)
  have p1 : f.Rows * (most - 1) ≤ 20 * 2 := Int.mul_le_mul (by omega) (by omega) (by omega) (by omega)
  dsimp only
  refine ok_ar (by omega) (ok_ar (by omega) (ok_ar (by omega) (ok_ar (by omega) (ok_ar (by omega) (ok_lv' fun x ex => ok_lv (ok_f ?_ ?_))))))
  · simp only [Bool.or_eq_true, decide_eq_true_eq]; omega
  refine ok_bs1 (R := fun _ => True) ?_ fun _ _ => ok_bd (Plan1_ok hl hn hi hf hg ho) ?_
  · refine ok_lp (fun z => 0 ≤ z ∧ z ≤ ns.length) (fun z => ((ns.length : Int) - z).toNat) ⟨by omega, by omega⟩ (by omega) ?_
    rintro z ⟨z0, z1⟩
    unfold P_maskkeep4_FloorPlans_L23
    refine ok_ite (fun hz => ?_) fun hz => ok_some ⟨(), rfl, trivial⟩
    obtain ⟨q1, q2, -⟩ := hF.port z ⟨z0, by omega⟩
    refine ok_ck ⟨z0, hz⟩ (ok_lv (ok_ck ⟨z0, by simp only; omega⟩ (ok_lv (ok_ck (fun _ => ⟨z0, by simp only; omega⟩) (ok_lv (ok_f ?_ (ok_ar (by omega) (ok_some ⟨⟨by omega, by omega⟩, by omega⟩))))))))
    simp [q1, q2]
  rintro ⟨f', e'⟩ h2
  simp only at h2
  subst h2
  exact ok_some rfl
end Go.Proofs.YtclhfemcinibmaaDoor.X
