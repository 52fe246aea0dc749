/- netlist.Check takes what Placed returns. Plain. -/
import Derived.Test.YtlolchgeedegdaaDoorPB
import Derived.Test.YtlolchgeedegdaaDoorQA
namespace Go.Proofs.YtlolchgeedegdaaDoor.X
open Go Go.RowKit
set_option linter.unusedVariables false
set_option linter.unusedSimpArgs false
set_option linter.unusedSectionVars false
theorem mask1 (tb : Int) (h : bAndNot .u64 tb 3 = 0 := by decide +kernel) : ∃ m, P_netlist_Mask 1 = some m ∧ bAndNot .u64 tb m = 0 := ⟨3, by decide +kernel, h⟩
theorem mask2 (tb : Int) (h : bAndNot .u64 tb 15 = 0 := by decide +kernel) : ∃ m, P_netlist_Mask 2 = some m ∧ bAndNot .u64 tb m = 0 := ⟨15, by decide +kernel, h⟩
theorem mask3 (tb : Int) (h : bAndNot .u64 tb 255 = 0 := by decide +kernel) : ∃ m, P_netlist_Mask 3 = some m ∧ bAndNot .u64 tb m = 0 := ⟨255, by decide +kernel, h⟩
theorem sub_len {α : Type} (xs : List α) {b : Int} (h0 : 0 ≤ b) (h1 : b ≤ xs.length) : ((X.sub xs 0 b).length : Int) = b := by simp [X.sub]; omega
theorem gt_sub0 {α : Type} [Inhabited α] (xs : List α) {b i : Int} (h0 : 0 ≤ i) (h1 : i < b) : gt (X.sub xs 0 b) i = gt xs i := by
  have : i.toNat < b.toNat := by omega
  simp [gt, X.sub, this]
theorem Lib8.mask {l : List T_api_Cell} (h : Lib8 l) {i : Int} (hi : 0 ≤ i ∧ i < 6) : ∃ m, P_netlist_Mask (gt l i).Ins = some m ∧ bAndNot .u64 (gt l i).Table m = 0 := by
  rcases (by omega : i = 0 ∨ i = 1 ∨ i = 2 ∨ i = 3 ∨ i = 4 ∨ i = 5) with e | e | e | e | e | e <;> subst e
  · rw [h.c0.ins, h.c0.table]; exact mask1 _
  · rw [h.c1.ins, h.c1.table]; exact mask1 _
  · rw [h.c2.ins, h.c2.table]; exact mask2 _
  · rw [h.c3.ins, h.c3.table]; exact mask2 _
  · rw [h.c4.ins, h.c4.table]; exact mask2 _
  · rw [h.c5.ins, h.c5.table]; exact mask3 _
theorem Lib8.flopA {l : List T_api_Cell} (h : Lib8 l) {i : Int} (hi : 0 ≤ i ∧ i < 6) : (gt l i).Flop = false := by
  rcases (by omega : i = 0 ∨ i = 1 ∨ i = 2 ∨ i = 3 ∨ i = 4 ∨ i = 5) with e | e | e | e | e | e <;> subst e
  · exact h.c0.flop
  · exact h.c1.flop
  · exact h.c2.flop
  · exact h.c3.flop
  · exact h.c4.flop
  · exact h.c5.flop
/-- Names in a row. -/
def nmL (c : UInt8) (n : Nat) : List ByteArray := (List.range n).map fun (i : Nat) => nm c (i : Int)
theorem nmL_len (c : UInt8) (n : Nat) : (nmL c n).length = n := by simp [nmL]
theorem nmL_succ (c : UInt8) (n : Nat) : nmL c (n + 1) = nmL c n ++ [nm c (n : Int)] := by simp [nmL, List.range_succ]
theorem nmL_gt {c : UInt8} {n : Nat} {j : Int} (h0 : 0 ≤ j) (h1 : j < n) : gt (nmL c n) j = nm c j := by
  obtain ⟨k, rfl⟩ := Int.eq_ofNat_of_zero_le h0
  have : k < n := by omega
  simp [gt, nmL, List.getD_eq_getElem?_getD, this]
theorem nmL_eq {xs : List ByteArray} {c : UInt8} (h : All (fun i x => x = nm c i) xs) {n : Nat} (hn : xs.length = n) : xs = nmL c n := by
  refine ext_gt (by rw [nmL_len, hn]) fun j h0 h1 => ?_
  rw [nmL_gt h0 (by omega)]
  exact h j ⟨h0, h1⟩
theorem names_dec : ((List.range 10).all fun a => (List.range 12).all fun b => decide (P_graph_Names (nmL 105 a ++ nmL 102 b) = some 0)) = true := by decide +kernel
theorem namesO_dec : ((List.range 10).all fun a => decide (P_graph_Names (nmL 111 a) = some 0)) = true := by decide +kernel
theorem names_ok {a b : Nat} (ha : a < 10) (hb : b < 12) : P_graph_Names (nmL 105 a ++ nmL 102 b) = some 0 := by
  have := List.all_eq_true.1 (List.all_eq_true.1 names_dec a (List.mem_range.2 ha)) b (List.mem_range.2 hb)
  simpa using this
theorem namesO_ok {a : Nat} (ha : a < 10) : P_graph_Names (nmL 111 a) = some 0 := by
  have := List.all_eq_true.1 namesO_dec a (List.mem_range.2 ha)
  simpa using this
section
variable {n : T_api_Netlist} {l : List T_api_Cell} {ins flops gates outs : Int} (hl : Lib8 l) (h : PlacedN n l ins flops gates outs) (hi : 1 ≤ ins ∧ ins ≤ 9) (hf : 0 ≤ flops ∧ flops < 12) (hg : 0 ≤ gates ∧ gates < 60) (ho : 1 ≤ outs ∧ outs ≤ 9)
include hl h hi hf hg ho
theorem First_ok : Ok (P_netlist_First n) (fun r => r = 2 + ins + flops) := by
  have a := h.inL
  have b := h.flopL
  unfold P_netlist_First
  exact ok_ar (by omega) (ok_ar (by omega) (ok_some (by omega)))
theorem ends_ok : Ok (P_netlist_ends n) (fun r => r = 0) := by
  have a := h.inL
  have b := h.flopL
  have c := h.gateL
  have d := h.outsL
  unfold P_netlist_ends
  refine ok_bd (R := fun r => r = 2 + ins + flops + gates) ?_ ?_
  · unfold P_netlist_Nets
    refine ok_bd (First_ok hl h hi hf hg ho) ?_
    rintro _ rfl
    exact ok_ar (by omega) (ok_some (by omega))
  rintro _ rfl
  refine ok_bs1 (R := fun _ => True) ?_ fun _ _ => ok_bs1 (R := fun _ => True) ?_ fun _ _ => ok_some rfl
  · refine ok_lp (fun y => 0 ≤ y ∧ y ≤ flops) (fun y => (flops - y).toNat) ⟨by omega, by omega⟩ (by omega) ?_
    rintro y ⟨h0, h1⟩
    unfold P_netlist_ends_L3
    refine ok_ite (fun hlt => ?_) fun hge => ok_some ⟨(), rfl, trivial⟩
    obtain ⟨-, q1, q2⟩ := h.flop y ⟨h0, hlt⟩
    refine ok_ck ⟨h0, hlt⟩ (ok_lv (ok_lv (ok_lv (ok_lv (ok_f ?_ (ok_ar (by omega) (ok_some ⟨⟨by omega, by omega⟩, by omega⟩)))))))
    simp only [Bool.or_eq_true, decide_eq_true_eq]; omega
  · refine ok_lp (fun y => 0 ≤ y ∧ y ≤ outs) (fun y => (outs - y).toNat) ⟨by omega, by omega⟩ (by omega) ?_
    rintro y ⟨h0, h1⟩
    unfold P_netlist_ends_L9
    refine ok_ite (fun hlt => ?_) fun hge => ok_some ⟨(), rfl, trivial⟩
    have q1 := h.outs y ⟨h0, hlt⟩
    simp only at q1
    refine ok_ck ⟨h0, hlt⟩ (ok_lv (ok_lv (ok_f ?_ (ok_ar (by omega) (ok_some ⟨⟨by omega, by omega⟩, by omega⟩)))))
    simp only [Bool.or_eq_true, decide_eq_true_eq]; omega
theorem Form_ok : Ok (P_netlist_Form n) (fun r => r = 0) := by
  have a := h.inL
  have b := h.flopL
  have c := h.gateL
  have d := h.outsL
  have e := h.outL
  have hin := nmL_eq h.inN (n := ins.toNat) (by omega)
  have hout := nmL_eq h.outN (n := outs.toNat) (by omega)
  unfold P_netlist_Form
  refine ok_lv (ok_lv (ok_lv (ok_f (by simp only [Bool.or_eq_true, decide_eq_true_eq]; omega) (ok_f (by omega) (ok_bd (R := fun r => r = n.In) ?_ ?_)))))
  · unfold P_slices_Clone_string_string
    exact ok_lv (ok_ck (by simp only [apOk, List.nil_append]; omega) (ok_some (List.nil_append _)))
  rintro _ rfl
  refine ok_bd (R := fun r => r = nmL 105 ins.toNat ++ nmL 102 flops.toNat) ?_ ?_
  · refine ok_lp (fun s => ∃ y : Nat, s.2 = y ∧ (y : Int) ≤ flops ∧ s.1 = nmL 105 ins.toNat ++ nmL 102 y) (fun s => (flops - s.2).toNat) ⟨0, rfl, by omega, by rw [hin]; simp [nmL]⟩ (by simp only; omega) ?_
    rintro ⟨_, _⟩ ⟨y, rfl, y1, rfl⟩
    unfold P_netlist_Form_L7
    dsimp only
    refine ok_ite (fun hlt => ?_) fun hge => ok_some (by rw [show flops.toNat = y by omega])
    have q := (h.flop y ⟨by omega, hlt⟩).1
    refine ok_ck ⟨by omega, hlt⟩ (ok_lv (ok_lv (ok_ck ?_ (ok_ar (by omega) (ok_some ⟨⟨y + 1, by simp only; omega, by omega, ?_⟩, by simp only; omega⟩)))))
    · simp only [apOk, List.length_append, List.length_singleton, nmL_len]; omega
    · simp only; rw [q, nmL_succ, List.append_assoc]
  rintro _ rfl
  rw [names_ok (by omega) (by omega), hout, namesO_ok (by omega)]
  refine ok_bd (R := fun r => r = 0) ⟨0, rfl, rfl⟩ ?_
  rintro _ rfl
  refine ok_f (by simp) (ok_bd (R := fun r => r = 0) ⟨0, rfl, rfl⟩ ?_)
  rintro _ rfl
  refine ok_f (by simp) (ok_bd (First_ok hl h hi hf hg ho) ?_)
  rintro _ rfl
  refine ok_bs1 (R := fun _ => True) ?_ fun _ _ => ok_bd (ends_ok hl h hi hf hg ho) ?_
  · refine ok_lp (fun y => 0 ≤ y ∧ y ≤ gates) (fun y => (gates - y).toNat) ⟨by omega, by omega⟩ (by omega) ?_
    rintro y ⟨h0, h1⟩
    unfold P_netlist_Form_L19
    refine ok_ite (fun hlt => ?_) fun hge => ok_some ⟨(), rfl, trivial⟩
    obtain ⟨q1, q2, q3, q4⟩ := h.gate y ⟨h0, hlt⟩
    have q5 := hl.ins q1
    obtain ⟨m, m1, m2⟩ := hl.mask q1
    refine ok_ck ⟨h0, hlt⟩ (ok_lv (ok_f (by omega) (ok_bd (R := fun r => r = m) ⟨m, by rw [q3]; exact m1, rfl⟩ ?_)))
    rintro _ rfl
    refine ok_lv (ok_f (by rw [q2, m2]; simp) (ok_bs1 (R := fun _ => True) ?_ fun _ _ => ok_ar (by omega) (ok_some ⟨⟨by omega, by omega⟩, by omega⟩)))
    refine ok_lp (fun z => 0 ≤ z ∧ z ≤ (gt n.Gates y).Ins.length) (fun z => (((gt n.Gates y).Ins.length : Int) - z).toNat) ⟨by omega, by omega⟩ (by omega) ?_
    rintro z ⟨z0, z1⟩
    unfold P_netlist_Form_L26
    refine ok_ite (fun hlt => ?_) fun hge => ok_some ⟨(), rfl, trivial⟩
    have q6 := q4 z ⟨z0, hlt⟩
    simp only at q6
    refine ok_ck ⟨z0, hlt⟩ (ok_lv (ok_ck (fun _ => by omega) (ok_lv (ok_lv (ok_f ?_ (ok_ar (by omega) (ok_some ⟨⟨by omega, by omega⟩, by omega⟩)))))))
    simp only [Bool.or_eq_true, decide_eq_true_eq]; omega
  rintro _ rfl
  exact ok_some rfl
theorem NCheck_ok : Ok (P_netlist_Check n l) (fun r => r = 0) := by
  have b := h.flopL
  have c := h.gateL
  have h8 := hl.len
  unfold P_netlist_Check
  refine ok_bd (Form_ok hl h hi hf hg ho) ?_
  rintro _ rfl
  refine ok_f (by simp) (ok_bs1 (R := fun _ => True) ?_ fun _ _ => ok_bs1 (R := fun _ => True) ?_ fun _ _ => ok_some rfl)
  · refine ok_lp (fun y => 0 ≤ y ∧ y ≤ gates) (fun y => (gates - y).toNat) ⟨by omega, by omega⟩ (by omega) ?_
    rintro y ⟨h0, h1⟩
    unfold P_netlist_Check_L5
    refine ok_ite (fun hlt => ?_) fun hge => ok_some ⟨(), rfl, trivial⟩
    obtain ⟨q1, q2, q3, q4⟩ := h.gate y ⟨h0, hlt⟩
    refine ok_ck ⟨h0, hlt⟩ (ok_lv (ok_bd (R := fun r => r = 0) ?_ ?_))
    · unfold P_netlist_gate
      refine ok_f (by omega) (ok_lv (ok_f (by simp only [Bool.or_eq_true, decide_eq_true_eq]; omega) (ok_ck ⟨by omega, by omega⟩ (ok_lv (ok_f (by rw [hl.flopA q1]; simp) (ok_ck ⟨by omega, by omega⟩ (ok_lv (ok_ck (fun _ => ⟨by omega, by omega⟩) (ok_lv (ok_f ?_ (ok_some rfl)))))))))))
      simp only [Bool.or_eq_true, decide_eq_true_eq]
      rw [q2, q3]; simp
    rintro _ rfl
    exact ok_f (by simp) (ok_ar (by omega) (ok_some ⟨⟨by omega, by omega⟩, by omega⟩))
  · refine ok_lp (fun y => 0 ≤ y ∧ y ≤ flops) (fun y => (flops - y).toNat) ⟨by omega, by omega⟩ (by omega) ?_
    rintro y ⟨h0, h1⟩
    unfold P_netlist_Check_L12
    refine ok_ite (fun hlt => ?_) fun hge => ok_some ⟨(), rfl, trivial⟩
    obtain ⟨-, -, q2⟩ := h.flop y ⟨h0, hlt⟩
    refine ok_ck ⟨h0, hlt⟩ (ok_lv (ok_bd (R := fun r => r = 0) ?_ ?_))
    · unfold P_netlist_flop
      refine ok_f (by omega) (ok_lv (ok_f (by simp only [Bool.or_eq_true, decide_eq_true_eq]; omega) (ok_ck ⟨by omega, by omega⟩ (ok_lv (ok_f ?_ (ok_ck ⟨by omega, by omega⟩ (ok_lv (ok_lv (ok_f ?_ (ok_some rfl))))))))))
      · rcases q2 with ⟨e, -⟩ | ⟨e, -⟩ <;> rw [e]
        · rw [hl.c6.flop]; simp
        · rw [hl.c7.flop]; simp
      · simp only [Bool.and_eq_true, decide_eq_true_eq]
        rcases q2 with ⟨e, e2⟩ | ⟨e, -⟩
        · omega
        · rw [e, hl.c7.ins]; omega
    rintro _ rfl
    exact ok_f (by simp) (ok_ar (by omega) (ok_some ⟨⟨by omega, by omega⟩, by omega⟩))
end
theorem nm_dec : ((List.range 10).all fun i => (List.range 10).all fun j => decide ((nm 105 (i : Int) ≠ nm 105 (j : Int) ∧ nm 111 (i : Int) ≠ nm 111 (j : Int)) ∨ i = j)) = true := by decide +kernel
theorem nm_ne {i j : Int} (hi : 0 ≤ i ∧ i < 10) (hj : 0 ≤ j ∧ j < 10) (hne : i ≠ j) : nm 105 i ≠ nm 105 j ∧ nm 111 i ≠ nm 111 j := by
  obtain ⟨a, rfl⟩ := Int.eq_ofNat_of_zero_le hi.1
  obtain ⟨b, rfl⟩ := Int.eq_ofNat_of_zero_le hj.1
  have := List.all_eq_true.1 (List.all_eq_true.1 nm_dec a (List.mem_range.2 (by omega))) b (List.mem_range.2 (by omega))
  simp only [decide_eq_true_eq] at this
  rcases this with h | h
  · exact h
  · omega
end Go.Proofs.YtlolchgeedegdaaDoor.X
