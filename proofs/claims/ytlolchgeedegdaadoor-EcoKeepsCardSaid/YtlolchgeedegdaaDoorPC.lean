/- lib.Check takes a stream's library. -/
import Derived.Test.YtlolchgeedegdaaDoorPB
namespace Go.Proofs.YtlolchgeedegdaaDoor.X
open Go Go.RowKit
set_option linter.unusedVariables false
theorem in_ok (m : Int) (l : List Int) (hl : l.length ≤ 1000000) (h : ∀ i, inb i l.length → 0 ≤ gt l i ∧ gt l i ≤ m) : Ok (P_lib_in m l) (fun r => r = true) := by
  unfold P_lib_in
  refine ok_bs1 (R := fun _ => True) ?_ fun _ _ => ok_some rfl
  refine ok_lp (fun y => 0 ≤ y ∧ y ≤ l.length) (fun y => ((l.length : Int) - y).toNat) ⟨by omega, by omega⟩ (by omega) ?_
  rintro y ⟨h0, h1⟩
  unfold P_lib_in_L2
  refine ok_ite (fun hlt => ?_) fun hge => ok_some ⟨(), rfl, trivial⟩
  have := h y ⟨h0, hlt⟩
  refine ok_ck ⟨h0, hlt⟩ (ok_lv (ok_lv (ok_f (by simp; omega) (ok_ar' (by omega) fun z ez => ok_some ⟨⟨by omega, by omega⟩, by omega⟩))))
theorem cell_ok {c : T_api_Cell} {k e : Int} (hn : P_lib_Name c.Name = some true) (hN : CellN c k e)
    (hc : (c.Flop = false ∧ 1 ≤ c.Ins ∧ c.Ins ≤ 3 ∧ k = c.Ins ∧ e = c.Ins ∧ c.Setup = 0 ∧ c.Hold = 0 ∧ ∃ m, P_netlist_Mask c.Ins = some m ∧ bAndNot .u64 c.Table m = 0) ∨ (c.Flop = true ∧ 1 ≤ c.Ins ∧ c.Ins ≤ 2 ∧ k = c.Ins + 1 ∧ e = 1 ∧ c.Table = 0 ∧ ∃ m, P_netlist_Mask c.Ins = some m ∧ bAndNot .u64 c.Table m = 0)) :
    Ok (P_lib_CheckCell c) (fun r => r = 0) := by
  unfold P_lib_CheckCell
  obtain ⟨ha, hcl, hcap, hmi, hma, hmm, hdr, hse, hho⟩ := hN
  refine ok_bd (R := fun r => r = true) ⟨true, hn, rfl⟩ ?_
  rintro _ rfl
  refine ok_f (by simp) (ok_bd (R := fun o => o.1 ≤ c.Ins ∧ o.2.1 = k ∧ o.2.2 = e) ?_ ?_)
  · rcases hc with ⟨h1, h2, h3, h4, h5, _⟩ | ⟨h1, h2, h3, h4, h5, _⟩
    · exact ok_f (by simp [h1]) (ok_some ⟨by simp only; omega, by simp only; omega, by simp only; omega⟩)
    · exact ok_t h1 (ok_ar' (by omega) fun x ex => ok_some ⟨by simp only; omega, by simp only; omega, by simp only; omega⟩)
  rintro ⟨lo, cp, en⟩ ⟨q1, q2, q3⟩
  simp only at q1 q2 q3
  subst q2; subst q3
  have hI : c.Ins ≤ 6 := by rcases hc with h | h <;> omega
  have hF2 : (c.Flop && decide (2 < c.Ins)) = false := by
    rcases hc with h | h
    · rw [h.1]; rfl
    · simp; intro; omega
  refine ok_lv (ok_lv (ok_lv (ok_f (by rw [hF2]; simp; omega) (ok_lv (ok_lv (ok_f (by simp; omega) ?_))))))
  have hT : ∃ m, P_netlist_Mask c.Ins = some m ∧ bAndNot .u64 c.Table m = 0 := by rcases hc with h | h; exact h.2.2.2.2.2.2.2; exact h.2.2.2.2.2.2
  have hF3 : (c.Flop && decide (c.Table ≠ 0)) = false := by
    rcases hc with h | h
    · rw [h.1]; rfl
    · simp [h.2.2.2.2.2.1]
  obtain ⟨m, hm, hmz⟩ := hT
  rw [hF3]
  refine ok_lv (ok_bd (R := fun r => r = m) (ok_gd (fun _ => ⟨m, hm, rfl⟩) (fun h => by cases h)) ?_)
  rintro _ rfl
  refine ok_lv (ok_lv (ok_f (by simp [hmz]) ?_))
  refine ok_bd (in_ok 64 [c.Area] (by simp) (fun i hi => by have := one_inb hi; subst this; simp [gt]; omega)) ?_
  rintro _ rfl
  refine ok_lv (ok_bd (R := fun r => r = false) ?_ ?_)
  · refine ok_f (by simp; omega) (ok_bd (in_ok 1000 c.Cap (by rcases hc with h | h <;> omega) fun i hi => by have := hcap i hi; omega) ?_)
    rintro _ rfl
    refine ok_bd (R := fun r => r = false) (ok_t rfl (ok_bd (in_ok 1000 [c.Drive] (by simp) (fun i hi => by have := one_inb hi; subst this; simp [gt]; omega)) ?_)) ?_
    · rintro _ rfl; exact ok_some rfl
    · rintro _ rfl; exact ok_some rfl
  rintro _ rfl
  refine ok_f (by simp) (ok_bd (in_ok 10000 c.Min (by rcases hc with h | h <;> omega) fun i hi => by have := hmm i hi; omega) ?_)
  rintro _ rfl
  refine ok_bd (R := fun r => r = false) (ok_t rfl (ok_bd (in_ok 10000 c.Max (by rcases hc with h | h <;> omega) fun i hi => by have := hmm i ⟨hi.1, by have := hi.2; omega⟩; omega) ?_)) ?_
  · rintro _ rfl
    refine ok_bd (R := fun r => r = false) (ok_t rfl (ok_bd (in_ok 10000 [c.Setup, c.Hold] (by simp) (fun i hi => ?_)) ?_)) ?_
    · obtain ⟨h0, h1⟩ := hi
      simp at h1
      by_cases e : i = 0
      · subst e; simp [gt]; omega
      · have : i = 1 := by omega
        subst this; simp [gt]; omega
    · rintro _ rfl; exact ok_some rfl
    · rintro _ rfl; exact ok_some rfl
  rintro _ rfl
  refine ok_f (by simp) (ok_lv (ok_lv (ok_f (by rcases hc with h | h <;> simp [h.1, h.2.2.2.2.2]) ?_)))
  refine ok_bs1 (R := fun _ => True) ?_ fun _ _ => ok_some rfl
  refine ok_lp (fun y => 0 ≤ y ∧ y ≤ c.Min.length) (fun y => ((c.Min.length : Int) - y).toNat) ⟨by omega, by omega⟩ (by rcases hc with h | h <;> omega) ?_
  rintro y ⟨h0, h1⟩
  unfold P_lib_CheckCell_L19
  refine ok_ite (fun hlt => ?_) fun hge => ok_some ⟨(), rfl, trivial⟩
  have := hmm y ⟨h0, hlt⟩
  exact ok_ck ⟨h0, hlt⟩ (ok_lv (ok_ck ⟨h0, by omega⟩ (ok_lv (ok_f (by omega) (ok_ar' (by rcases hc with h | h <;> omega) fun z ez => ok_some ⟨⟨by omega, by omega⟩, by omega⟩)))))
theorem CellA.ok {c : T_api_Cell} {nm : ByteArray} {k tb : Int} (h : CellA c nm k tb) (hk : 1 ≤ k ∧ k ≤ 3) (hn : P_lib_Name nm = some true) (hm : ∃ m, P_netlist_Mask k = some m ∧ bAndNot .u64 tb m = 0) : Ok (P_lib_CheckCell c) (fun r => r = 0) :=
  cell_ok (by rw [h.name]; exact hn) h.n (.inl ⟨h.flop, by rw [h.ins]; omega, by rw [h.ins]; omega, h.ins.symm, h.ins.symm, h.setup, h.hold, by rw [h.ins, h.table]; exact hm⟩)
theorem CellF.ok {c : T_api_Cell} {nm : ByteArray} {k : Int} (h : CellF c nm k) (hk : 1 ≤ k ∧ k ≤ 2) (hn : P_lib_Name nm = some true) (hm : ∃ m, P_netlist_Mask k = some m ∧ bAndNot .u64 0 m = 0) : Ok (P_lib_CheckCell c) (fun r => r = 0) :=
  cell_ok (by rw [h.name]; exact hn) h.n (.inr ⟨h.flop, by rw [h.ins]; omega, by rw [h.ins]; omega, by rw [h.ins], rfl, h.table, by rw [h.ins, h.table]; exact hm⟩)
theorem mask1 (tb : Int) (h : bAndNot .u64 tb 3 = 0 := by decide +kernel) : ∃ m, P_netlist_Mask 1 = some m ∧ bAndNot .u64 tb m = 0 := ⟨3, by decide +kernel, h⟩
theorem mask2 (tb : Int) (h : bAndNot .u64 tb 15 = 0 := by decide +kernel) : ∃ m, P_netlist_Mask 2 = some m ∧ bAndNot .u64 tb m = 0 := ⟨15, by decide +kernel, h⟩
theorem mask3 (tb : Int) (h : bAndNot .u64 tb 255 = 0 := by decide +kernel) : ∃ m, P_netlist_Mask 3 = some m ∧ bAndNot .u64 tb m = 0 := ⟨255, by decide +kernel, h⟩
theorem Lib8.cell {l : List T_api_Cell} (h : Lib8 l) {i : Int} (hi : 0 ≤ i ∧ i < 8) : Ok (P_lib_CheckCell (gt l i)) (fun r => r = 0) := by
  obtain ⟨n, rfl⟩ := Int.eq_ofNat_of_zero_le hi.1
  have hn : n < 8 := by omega
  match n, hn with
  | 0, _ => exact h.c0.ok (by omega) (by decide +kernel) (mask1 _)
  | 1, _ => exact h.c1.ok (by omega) (by decide +kernel) (mask1 _)
  | 2, _ => exact h.c2.ok (by omega) (by decide +kernel) (mask2 _)
  | 3, _ => exact h.c3.ok (by omega) (by decide +kernel) (mask2 _)
  | 4, _ => exact h.c4.ok (by omega) (by decide +kernel) (mask2 _)
  | 5, _ => exact h.c5.ok (by omega) (by decide +kernel) (mask3 _)
  | 6, _ => exact h.c6.ok (by omega) (by decide +kernel) (mask1 _)
  | 7, _ => exact h.c7.ok (by omega) (by decide +kernel) (mask2 _)
/-- The cells' names. -/
def names8 : List ByteArray := [⟨#[98, 117, 102]⟩, ⟨#[105, 110, 118]⟩, ⟨#[110, 97, 110, 100]⟩, ⟨#[111, 114]⟩, ⟨#[120, 111, 114]⟩, ⟨#[109, 117, 120]⟩, ⟨#[100, 102, 102]⟩, ⟨#[100, 102, 102, 101]⟩]
theorem Lib8.name {l : List T_api_Cell} (h : Lib8 l) {i : Int} (hi : 0 ≤ i ∧ i < 8) : (gt l i).Name = gt names8 i := by
  obtain ⟨n, rfl⟩ := Int.eq_ofNat_of_zero_le hi.1
  have hn : n < 8 := by omega
  match n, hn with
  | 0, _ => exact h.c0.name
  | 1, _ => exact h.c1.name
  | 2, _ => exact h.c2.name
  | 3, _ => exact h.c3.name
  | 4, _ => exact h.c4.name
  | 5, _ => exact h.c5.name
  | 6, _ => exact h.c6.name
  | 7, _ => exact h.c7.name
theorem names8_apart : ((List.range 8).all fun i => (List.range i).all fun j => decide (gt names8 (i : Int) ≠ gt names8 (j : Int))) = true := by decide +kernel
theorem names_ne {i j : Int} (hj : 0 ≤ j) (hji : j < i) (hi : i < 8) : gt names8 j ≠ gt names8 i := by
  have h := List.all_eq_true.1 names8_apart i.toNat (List.mem_range.2 (by omega))
  have h2 := List.all_eq_true.1 h j.toNat (List.mem_range.2 (by omega))
  rw [decide_eq_true_eq, show ((i.toNat : Nat) : Int) = i by omega, show ((j.toNat : Nat) : Int) = j by omega] at h2
  exact fun e => h2 e.symm
theorem sub_len {α : Type} (xs : List α) {b : Int} (h0 : 0 ≤ b) (h1 : b ≤ xs.length) : ((X.sub xs 0 b).length : Int) = b := by simp [X.sub]; omega
theorem gt_sub0 {α : Type} [Inhabited α] (xs : List α) {b i : Int} (h0 : 0 ≤ i) (h1 : i < b) : gt (X.sub xs 0 b) i = gt xs i := by
  have : i.toNat < b.toNat := by omega
  simp [gt, X.sub, this]
theorem LibCheck_ok {l : List T_api_Cell} (h : Lib8 l) : Ok (P_lib_Check l) (fun r => r = 0) := by
  unfold P_lib_Check
  have hl := h.len
  refine ok_f (by omega) (ok_bs1 (R := fun _ => True) ?_ fun _ _ => ok_some rfl)
  refine ok_lp (fun y => 0 ≤ y ∧ y ≤ 8) (fun y => (8 - y).toNat) ⟨by omega, by omega⟩ (by omega) ?_
  rintro y ⟨h0, h1⟩
  unfold P_lib_Check_L4
  refine ok_ite (fun hlt => ?_) fun hge => ok_some ⟨(), rfl, trivial⟩
  refine ok_ck ⟨h0, hlt⟩ (ok_lv (ok_bd (h.cell ⟨h0, by omega⟩) ?_))
  rintro _ rfl
  refine ok_f (by simp) (ok_ck ⟨by omega, h0, by omega⟩ (ok_lv (ok_bd (R := fun r => r = false) ?_ ?_)))
  · unfold P_slices_ContainsFunc_api_Cell_api_Cell
    refine ok_bd (R := fun r => r = -1) ?_ ?_
    · unfold P_slices_IndexFunc_api_Cell_api_Cell
      refine ok_bs1 (R := fun _ => True) ?_ fun _ _ => ok_some rfl
      refine ok_lp (fun z => 0 ≤ z ∧ z ≤ y) (fun z => (y - z).toNat) ⟨by omega, by omega⟩ (by omega) ?_
      rintro z ⟨z0, z1⟩
      unfold P_slices_IndexFunc_api_Cell_api_Cell_L2
      have hsl := sub_len l h0 (by omega : y ≤ l.length)
      refine ok_ite (fun hz => ?_) fun hz => ok_some ⟨(), rfl, trivial⟩
      rw [hsl] at hz
      refine ok_ck ⟨z0, by omega⟩ (ok_lv (ok_bd (R := fun _ => True) (by unfold P_lib_Check_1; exact ok_some trivial) fun _ _ => ?_))
      refine ok_f ?_ (ok_ar' (by omega) fun x ex => ok_some ⟨⟨by omega, by omega⟩, by omega⟩)
      rw [gt_sub0 l z0 hz, h.name ⟨z0, by omega⟩, h.name ⟨h0, by omega⟩]
      exact names_ne z0 hz (by omega)
    · rintro _ rfl; exact ok_some (by decide)
  · rintro _ rfl
    exact ok_f (by simp) (ok_ar' (by omega) fun x ex => ok_some ⟨⟨by omega, by omega⟩, by omega⟩)
end Go.Proofs.YtlolchgeedegdaaDoor.X
