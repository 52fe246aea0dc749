/- Limits are taken: Check. Plain. -/
import Derived.Test.YtkenpbnpemjbhaaDoorKD
namespace Go.Proofs.YtkenpbnpemjbhaaDoor.X
open Go Go.RowKit
set_option linter.unusedVariables false
set_option linter.unusedSimpArgs false
set_option linter.unusedSectionVars false
theorem sub_len {α : Type} (xs : List α) {b : Int} (h0 : 0 ≤ b) (h1 : b ≤ xs.length) : ((X.sub xs 0 b).length : Int) = b := by simp [X.sub]; omega
theorem gt_sub0 {α : Type} [Inhabited α] (xs : List α) {b i : Int} (h0 : 0 ≤ i) (h1 : i < b) : gt (X.sub xs 0 b) i = gt xs i := by
  have : i.toNat < b.toNat := by omega
  simp [gt, X.sub, this]
theorem cname_ok {s : ByteArray} (h : Word s) : Ok (P_clocks_name s) (fun r => r = true) := by
  have a := h.pos
  have b := h.le
  unfold P_clocks_name
  refine ok_bs1 (R := fun _ => True) ?_ fun _ _ => ok_lv (ok_some ?_)
  · refine ok_lp (fun y => 0 ≤ y ∧ y ≤ s.size) (fun y => ((s.size : Int) - y).toNat) ⟨by omega, by omega⟩ (by omega) ?_
    rintro y ⟨y0, y1⟩
    unfold P_clocks_name_L2
    refine ok_ite (fun hlt => ?_) fun hge => ok_some ⟨(), rfl, trivial⟩
    have hb := h.byte y ⟨y0, hlt⟩
    exact ok_ck ⟨y0, hlt⟩ (ok_lv (ok_ck (fun _ => ⟨y0, hlt⟩) (ok_lv (ok_lv (ok_f (by simp only [Bool.or_eq_true, decide_eq_true_eq]; omega) (ok_ar (by omega) (ok_some ⟨⟨by omega, by omega⟩, by omega⟩)))))))
  · have hne : s ≠ (⟨#[]⟩ : ByteArray) := by
      rintro rfl
      simp only [sz_lit, List.size_toArray, List.length_nil] at a
      omega
    rw [decide_eq_true hne, Bool.true_and, decide_eq_true_eq]
    omega
section
variable {n : T_api_Netlist} {ins flops outs : Int} (h : NetW n ins flops outs) (hi : 1 ≤ ins ∧ ins ≤ 5) (hf : 0 ≤ flops ∧ flops ≤ 4) (ho : 1 ≤ outs ∧ outs ≤ 5)
  {p : Bool} {l : T_clocks_Limits} (hl : LimW n p l) (hp : l.Period ≤ 200)
include h hi hf ho hl hp
theorem CCheck_ok : Ok (P_clocks_Check l) (fun r => r = 0) := by
  have a := hl.inL
  have b := hl.outL
  have c := hl.pL
  have d := hl.per
  have e1 := h.inL
  have e2 := h.outL
  unfold P_clocks_Check
  refine ok_lv (ok_f (by simp only [Bool.or_eq_true, decide_eq_true_eq]; omega) (ok_lv (ok_lv (ok_f (by simp only [Bool.or_eq_true, decide_eq_true_eq]; omega) ?_))))
  refine ok_bs1 (R := fun _ => True) ?_ fun _ _ => ok_bs1 (R := fun _ => True) ?_ fun _ _ => ok_bs1 (R := fun _ => True) ?_ fun _ _ => ok_bd (write_ok h hi hf ho hl hp) ?_
  · refine ok_lp (fun y => 0 ≤ y ∧ y ≤ l.Inputs.length) (fun y => ((l.Inputs.length : Int) - y).toNat) ⟨by omega, by omega⟩ (by omega) ?_
    rintro y ⟨y0, y1⟩
    unfold P_clocks_Check_L6
    refine ok_ite (fun hlt => ?_) fun hge => ok_some ⟨(), rfl, trivial⟩
    obtain ⟨-, hw⟩ := hl.inp y ⟨y0, hlt⟩
    have w1 := hw.lo
    have w2 := hw.le
    have w3 := hw.hi
    refine ok_ck ⟨y0, hlt⟩ (ok_lv (ok_bd (R := fun r => r = true) (cname_ok (word_inp h hi hf ho hl hp ⟨y0, hlt⟩)) ?_))
    rintro _ rfl
    refine ok_f (by simp) (ok_lv (ok_lv (ok_f (by simp only [Bool.or_eq_true, decide_eq_true_eq]; omega) (ok_ck ⟨by omega, y0, by omega⟩ (ok_lv (ok_bd (R := fun r => r = false) ?_ ?_))))))
    · unfold P_slices_ContainsFunc_clocks_Input_clocks_Input
      refine ok_bd (R := fun r => r = -1) ?_ ?_
      · unfold P_slices_IndexFunc_clocks_Input_clocks_Input
        have hsl := sub_len l.Inputs (b := y) y0 (by omega)
        refine ok_bs1 (R := fun _ => True) ?_ fun _ _ => ok_some rfl
        refine ok_lp (fun z => 0 ≤ z ∧ z ≤ y) (fun z => (y - z).toNat) ⟨by omega, by omega⟩ (by omega) ?_
        rintro z ⟨z0, z1⟩
        unfold P_slices_IndexFunc_clocks_Input_clocks_Input_L2
        refine ok_ite (fun hz => ?_) fun hge => ok_some ⟨(), rfl, trivial⟩
        have hne := hl.inD y z z0 (by omega) hlt
        refine ok_ck ⟨z0, by omega⟩ (ok_lv (ok_bd (R := fun _ => True) ⟨(), by unfold P_clocks_Check_1; rfl, trivial⟩ fun _ _ => ?_))
        refine ok_f ?_ (ok_ar (by omega) (ok_some ⟨⟨by omega, by omega⟩, by omega⟩))
        rw [gt_sub0 _ z0 (by omega)]
        exact hne
      rintro _ rfl
      exact ok_some rfl
    rintro _ rfl
    exact ok_f (by simp) (ok_ar (by omega) (ok_some ⟨⟨by omega, by omega⟩, by omega⟩))
  · refine ok_lp (fun y => 0 ≤ y ∧ y ≤ l.Outputs.length) (fun y => ((l.Outputs.length : Int) - y).toNat) ⟨by omega, by omega⟩ (by omega) ?_
    rintro y ⟨y0, y1⟩
    unfold P_clocks_Check_L16
    refine ok_ite (fun hlt => ?_) fun hge => ok_some ⟨(), rfl, trivial⟩
    obtain ⟨-, hw⟩ := hl.out y ⟨y0, hlt⟩
    refine ok_ck ⟨y0, hlt⟩ (ok_lv (ok_bd (R := fun r => r = true) (cname_ok (word_out h hi hf ho hl hp ⟨y0, hlt⟩)) ?_))
    rintro _ rfl
    refine ok_f (by simp) (ok_lv (ok_f (by simp only [Bool.or_eq_true, decide_eq_true_eq]; omega) (ok_ck ⟨by omega, y0, by omega⟩ (ok_lv (ok_bd (R := fun r => r = false) ?_ ?_)))))
    · unfold P_slices_ContainsFunc_clocks_Output_clocks_Output
      refine ok_bd (R := fun r => r = -1) ?_ ?_
      · unfold P_slices_IndexFunc_clocks_Output_clocks_Output
        have hsl := sub_len l.Outputs (b := y) y0 (by omega)
        refine ok_bs1 (R := fun _ => True) ?_ fun _ _ => ok_some rfl
        refine ok_lp (fun z => 0 ≤ z ∧ z ≤ y) (fun z => (y - z).toNat) ⟨by omega, by omega⟩ (by omega) ?_
        rintro z ⟨z0, z1⟩
        unfold P_slices_IndexFunc_clocks_Output_clocks_Output_L2
        refine ok_ite (fun hz => ?_) fun hge => ok_some ⟨(), rfl, trivial⟩
        have hne := hl.outD y z z0 (by omega) hlt
        refine ok_ck ⟨z0, by omega⟩ (ok_lv (ok_bd (R := fun _ => True) ⟨(), by unfold P_clocks_Check_2; rfl, trivial⟩ fun _ _ => ?_))
        refine ok_f ?_ (ok_ar (by omega) (ok_some ⟨⟨by omega, by omega⟩, by omega⟩))
        rw [gt_sub0 _ z0 (by omega)]
        exact hne
      rintro _ rfl
      exact ok_some rfl
    rintro _ rfl
    exact ok_f (by simp) (ok_ar (by omega) (ok_some ⟨⟨by omega, by omega⟩, by omega⟩))
  · refine ok_lp (fun y => 0 ≤ y ∧ y ≤ l.Paths.length) (fun y => ((l.Paths.length : Int) - y).toNat) ⟨by omega, by omega⟩ (by omega) ?_
    rintro y ⟨y0, y1⟩
    unfold P_clocks_Check_L26
    refine ok_ite (fun hlt => ?_) fun hge => ok_some ⟨(), rfl, trivial⟩
    obtain ⟨n1, n2, n3⟩ := hl.pth y ⟨y0, hlt⟩
    refine ok_ck ⟨y0, hlt⟩ (ok_lv (ok_bd (R := fun r => (gt l.Paths y).From ≠ (⟨#[]⟩ : ByteArray) → r = true) (ok_gd (fun hq => (cname_ok ((name_in h hi hf ho hl hp n1).resolve_left (of_decide_eq_true hq))).mono fun r hr _ => hr) fun hq hne => by simp [hne] at hq) ?_))
    intro r1 hr1
    have hx1 : (decide ((gt l.Paths y).From ≠ (⟨#[]⟩ : ByteArray)) && !r1) = false := by
      by_cases e : (gt l.Paths y).From = (⟨#[]⟩ : ByteArray)
      · simp [e]
      · simp [hr1 e]
    refine ok_lv ?_
    rw [hx1]
    refine ok_bd (R := fun r => (gt l.Paths y).To ≠ (⟨#[]⟩ : ByteArray) → r = true) (ok_gd (fun hq => (cname_ok ((name_out h hi hf ho hl hp n2).resolve_left (by simpa using hq))).mono fun r hr _ => hr) fun hq hne => by simp [hne] at hq) ?_
    intro r2 hr2
    have hx2 : (decide ((gt l.Paths y).To ≠ (⟨#[]⟩ : ByteArray)) && !r2) = false := by
      by_cases e : (gt l.Paths y).To = (⟨#[]⟩ : ByteArray)
      · simp [e]
      · simp [hr2 e]
    refine ok_lv ?_
    rw [hx2]
    refine ok_lv (ok_f (by simp) (ok_lv (ok_lv (ok_f (by simp only [Bool.or_eq_true, decide_eq_true_eq]; omega) (ok_ar (by omega) (ok_some ⟨⟨by omega, by omega⟩, by omega⟩))))))
  rintro r ⟨-, hr1, hr2⟩
  exact ok_f (by omega) (ok_some rfl)
end
end Go.Proofs.YtkenpbnpemjbhaaDoor.X
