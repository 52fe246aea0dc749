/- netlist.Form takes what Placed returns; floor.CheckLib takes a stream's library. Plain. -/
import Derived.Test.YtlolchgeedegdaaDoorPC
import Derived.Test.YtlolchgeedegdaaDoorQA
namespace Go.Proofs.YtlolchgeedegdaaDoor.X
open Go Go.RowKit
set_option linter.unusedVariables false
set_option linter.unusedSimpArgs false
set_option linter.unusedSectionVars false
theorem Lib8.mask {l : List T_api_Cell} (h : Lib8 l) {i : Int} (hi : 0 ≤ i ∧ i < 6) : ∃ m, P_netlist_Mask (gt l i).Ins = some m ∧ bAndNot .u64 (gt l i).Table m = 0 := by
  rcases (by omega : i = 0 ∨ i = 1 ∨ i = 2 ∨ i = 3 ∨ i = 4 ∨ i = 5) with e | e | e | e | e | e <;> subst e
  · rw [h.c0.ins, h.c0.table]; exact mask1 _
  · rw [h.c1.ins, h.c1.table]; exact mask1 _
  · rw [h.c2.ins, h.c2.table]; exact mask2 _
  · rw [h.c3.ins, h.c3.table]; exact mask2 _
  · rw [h.c4.ins, h.c4.table]; exact mask2 _
  · rw [h.c5.ins, h.c5.table]; exact mask3 _
theorem Lib8.flopA {l : List T_api_Cell} (h : Lib8 l) {i : Int} (hi : 0 ≤ i ∧ i < 6) : (gt l i).Flop = false := by
  rcases (by omega : i = 0 ∨ i = 1 ∨ i = 2 ∨ i = 3 ∨ i = 4 ∨ i = 5) with e | e | e | e | e | e <;> subst e
  · exact h.c0.flop
  · exact h.c1.flop
  · exact h.c2.flop
  · exact h.c3.flop
  · exact h.c4.flop
  · exact h.c5.flop
theorem Lib8.num {l : List T_api_Cell} (h : Lib8 l) {i : Int} (hi : 0 ≤ i ∧ i < 8) : (1 ≤ (gt l i).Ins ∧ (gt l i).Ins ≤ 3) ∧ 1 ≤ (gt l i).Area ∧ (gt l i).Area ≤ 3 ∧ (gt l i).Ins ≤ 2 * (gt l i).Area := by
  rcases (by omega : i = 0 ∨ i = 1 ∨ i = 2 ∨ i = 3 ∨ i = 4 ∨ i = 5 ∨ i = 6 ∨ i = 7) with e | e | e | e | e | e | e | e <;> subst e
  · exact ⟨by rw [h.c0.ins]; omega, h.c0.n.area⟩
  · exact ⟨by rw [h.c1.ins]; omega, h.c1.n.area⟩
  · exact ⟨by rw [h.c2.ins]; omega, h.c2.n.area⟩
  · exact ⟨by rw [h.c3.ins]; omega, h.c3.n.area⟩
  · exact ⟨by rw [h.c4.ins]; omega, h.c4.n.area⟩
  · exact ⟨by rw [h.c5.ins]; omega, h.c5.n.area⟩
  · exact ⟨by rw [h.c6.ins]; omega, h.c6.n.area⟩
  · exact ⟨by rw [h.c7.ins]; omega, h.c7.n.area⟩
theorem CheckLib_ok {l : List T_api_Cell} (h : Lib8 l) : Ok (P_floor_CheckLib l) (fun r => r = 0) := by
  have hl := h.len
  unfold P_floor_CheckLib
  refine ok_bd (LibCheck_ok h) ?_
  rintro _ rfl
  refine ok_f (by simp) (ok_bs1 (R := fun _ => True) ?_ fun _ _ => ok_some rfl)
  refine ok_lp (fun y => 0 ≤ y ∧ y ≤ 8) (fun y => (8 - y).toNat) ⟨by omega, by omega⟩ (by omega) ?_
  rintro y ⟨h0, h1⟩
  unfold P_floor_CheckLib_L5
  refine ok_ite (fun hlt => ?_) fun hge => ok_some ⟨(), rfl, trivial⟩
  have hn := h.num (i := y) ⟨h0, by omega⟩
  refine ok_ck ⟨h0, hlt⟩ (ok_lv (ok_bd (R := fun r => r = true) ?_ ?_))
  · unfold P_floor_Fits
    refine ok_lv (ok_ck (fun _ => by omega) (ok_lv (ok_ck (fun _ => by omega) (ok_lv (ok_lv (ok_some ?_))))))
    simp; omega
  rintro _ rfl
  exact ok_f (by simp) (ok_ar (by omega) (ok_some ⟨⟨by omega, by omega⟩, by omega⟩))
/-- Names in a row. -/
def nmL (c : UInt8) (n : Nat) : List ByteArray := (List.range n).map fun (i : Nat) => nm c (i : Int)
theorem nmL_len (c : UInt8) (n : Nat) : (nmL c n).length = n := by simp [nmL]
theorem nmL_succ (c : UInt8) (n : Nat) : nmL c (n + 1) = nmL c n ++ [nm c (n : Int)] := by simp [nmL, List.range_succ]
theorem nmL_gt {c : UInt8} {n : Nat} {j : Int} (h0 : 0 ≤ j) (h1 : j < n) : gt (nmL c n) j = nm c j := by
  obtain ⟨k, rfl⟩ := Int.eq_ofNat_of_zero_le h0
  have : k < n := by omega
  simp [gt, nmL, List.getD_eq_getElem?_getD, this]
theorem nmL_eq {xs : List ByteArray} {c : UInt8} (h : All (fun i x => x = nm c i) xs) {n : Nat} (hn : xs.length = n) : xs = nmL c n := by
  refine ext_gt (by rw [nmL_len, hn]) fun j h0 h1 => ?_
  rw [nmL_gt h0 (by omega)]
  exact h j ⟨h0, h1⟩
theorem names_dec : ((List.range 10).all fun a => (List.range 12).all fun b => decide (P_graph_Names (nmL 105 a ++ nmL 102 b) = some 0)) = true := by decide +kernel
theorem namesO_dec : ((List.range 10).all fun a => decide (P_graph_Names (nmL 111 a) = some 0)) = true := by decide +kernel
theorem names_ok {a b : Nat} (ha : a < 10) (hb : b < 12) : P_graph_Names (nmL 105 a ++ nmL 102 b) = some 0 := by
  have := List.all_eq_true.1 (List.all_eq_true.1 names_dec a (List.mem_range.2 ha)) b (List.mem_range.2 hb)
  simpa using this
theorem namesO_ok {a : Nat} (ha : a < 10) : P_graph_Names (nmL 111 a) = some 0 := by
  have := List.all_eq_true.1 namesO_dec a (List.mem_range.2 ha)
  simpa using this
section
variable {n : T_api_Netlist} {l : List T_api_Cell} {ins flops gates outs : Int} (hl : Lib8 l) (h : PlacedN n l ins flops gates outs) (hi : 1 ≤ ins ∧ ins ≤ 9) (hf : 0 ≤ flops ∧ flops < 12) (hg : 0 ≤ gates ∧ gates < 60) (ho : 1 ≤ outs ∧ outs ≤ 9)
include hl h hi hf hg ho
theorem First_ok : Ok (P_netlist_First n) (fun r => r = 2 + ins + flops) := by
  have a := h.inL
  have b := h.flopL
  unfold P_netlist_First
  exact ok_ar (by omega) (ok_ar (by omega) (ok_some (by omega)))
theorem ends_ok : Ok (P_netlist_ends n) (fun r => r = 0) := by
  have a := h.inL
  have b := h.flopL
  have c := h.gateL
  have d := h.outsL
  unfold P_netlist_ends
  refine ok_bd (R := fun r => r = 2 + ins + flops + gates) ?_ ?_
  · unfold P_netlist_Nets
    refine ok_bd (First_ok hl h hi hf hg ho) ?_
    rintro _ rfl
    exact ok_ar (by omega) (ok_some (by omega))
  rintro _ rfl
  refine ok_bs1 (R := fun _ => True) ?_ fun _ _ => ok_bs1 (R := fun _ => True) ?_ fun _ _ => ok_some rfl
  · refine ok_lp (fun y => 0 ≤ y ∧ y ≤ flops) (fun y => (flops - y).toNat) ⟨by omega, by omega⟩ (by omega) ?_
    rintro y ⟨h0, h1⟩
    unfold P_netlist_ends_L3
    refine ok_ite (fun hlt => ?_) fun hge => ok_some ⟨(), rfl, trivial⟩
    obtain ⟨-, q1, q2⟩ := h.flop y ⟨h0, hlt⟩
    refine ok_ck ⟨h0, hlt⟩ (ok_lv (ok_lv (ok_lv (ok_lv (ok_f ?_ (ok_ar (by omega) (ok_some ⟨⟨by omega, by omega⟩, by omega⟩)))))))
    simp only [Bool.or_eq_true, decide_eq_true_eq]; omega
  · refine ok_lp (fun y => 0 ≤ y ∧ y ≤ outs) (fun y => (outs - y).toNat) ⟨by omega, by omega⟩ (by omega) ?_
    rintro y ⟨h0, h1⟩
    unfold P_netlist_ends_L9
    refine ok_ite (fun hlt => ?_) fun hge => ok_some ⟨(), rfl, trivial⟩
    have q1 := h.outs y ⟨h0, hlt⟩
    simp only at q1
    refine ok_ck ⟨h0, hlt⟩ (ok_lv (ok_lv (ok_f ?_ (ok_ar (by omega) (ok_some ⟨⟨by omega, by omega⟩, by omega⟩)))))
    simp only [Bool.or_eq_true, decide_eq_true_eq]; omega
theorem Form_ok : Ok (P_netlist_Form n) (fun r => r = 0) := by
  have a := h.inL
  have b := h.flopL
  have c := h.gateL
  have d := h.outsL
  have e := h.outL
  have hin := nmL_eq h.inN (n := ins.toNat) (by omega)
  have hout := nmL_eq h.outN (n := outs.toNat) (by omega)
  unfold P_netlist_Form
  refine ok_lv (ok_lv (ok_lv (ok_f (by simp only [Bool.or_eq_true, decide_eq_true_eq]; omega) (ok_f (by omega) (ok_bd (R := fun r => r = n.In) ?_ ?_)))))
  · unfold P_slices_Clone_string_string
    exact ok_lv (ok_ck (by simp only [apOk, List.nil_append]; omega) (ok_some (List.nil_append _)))
  rintro _ rfl
  refine ok_bd (R := fun r => r = nmL 105 ins.toNat ++ nmL 102 flops.toNat) ?_ ?_
  · refine ok_lp (fun s => ∃ y : Nat, s.2 = y ∧ (y : Int) ≤ flops ∧ s.1 = nmL 105 ins.toNat ++ nmL 102 y) (fun s => (flops - s.2).toNat) ⟨0, rfl, by omega, by rw [hin]; simp [nmL]⟩ (by simp only; omega) ?_
    rintro ⟨_, _⟩ ⟨y, rfl, y1, rfl⟩
    unfold P_netlist_Form_L7
    dsimp only
    refine ok_ite (fun hlt => ?_) fun hge => ok_some (by rw [show flops.toNat = y by omega])
    have q := (h.flop y ⟨by omega, hlt⟩).1
    refine ok_ck ⟨by omega, hlt⟩ (ok_lv (ok_lv (ok_ck ?_ (ok_ar (by omega) (ok_some ⟨⟨y + 1, by simp only; omega, by omega, ?_⟩, by simp only; omega⟩)))))
    · simp only [apOk, List.length_append, List.length_singleton, nmL_len]; omega
    · simp only; rw [q, nmL_succ, List.append_assoc]
  rintro _ rfl
  rw [names_ok (by omega) (by omega), hout, namesO_ok (by omega)]
  refine ok_bd (R := fun r => r = 0) ⟨0, rfl, rfl⟩ ?_
  rintro _ rfl
  refine ok_f (by simp) (ok_bd (R := fun r => r = 0) ⟨0, rfl, rfl⟩ ?_)
  rintro _ rfl
  refine ok_f (by simp) (ok_bd (First_ok hl h hi hf hg ho) ?_)
  rintro _ rfl
  refine ok_bs1 (R := fun _ => True) ?_ fun _ _ => ok_bd (ends_ok hl h hi hf hg ho) ?_
  · refine ok_lp (fun y => 0 ≤ y ∧ y ≤ gates) (fun y => (gates - y).toNat) ⟨by omega, by omega⟩ (by omega) ?_
    rintro y ⟨h0, h1⟩
    unfold P_netlist_Form_L19
    refine ok_ite (fun hlt => ?_) fun hge => ok_some ⟨(), rfl, trivial⟩
    obtain ⟨q1, q2, q3, q4⟩ := h.gate y ⟨h0, hlt⟩
    have q5 := hl.ins q1
    obtain ⟨m, m1, m2⟩ := hl.mask q1
    refine ok_ck ⟨h0, hlt⟩ (ok_lv (ok_f (by omega) (ok_bd (R := fun r => r = m) ⟨m, by rw [q3]; exact m1, rfl⟩ ?_)))
    rintro _ rfl
    refine ok_lv (ok_f (by rw [q2, m2]; simp) (ok_bs1 (R := fun _ => True) ?_ fun _ _ => ok_ar (by omega) (ok_some ⟨⟨by omega, by omega⟩, by omega⟩)))
    refine ok_lp (fun z => 0 ≤ z ∧ z ≤ (gt n.Gates y).Ins.length) (fun z => (((gt n.Gates y).Ins.length : Int) - z).toNat) ⟨by omega, by omega⟩ (by omega) ?_
    rintro z ⟨z0, z1⟩
    unfold P_netlist_Form_L26
    refine ok_ite (fun hlt => ?_) fun hge => ok_some ⟨(), rfl, trivial⟩
    have q6 := q4 z ⟨z0, hlt⟩
    simp only at q6
    refine ok_ck ⟨z0, hlt⟩ (ok_lv (ok_ck (fun _ => by omega) (ok_lv (ok_lv (ok_f ?_ (ok_ar (by omega) (ok_some ⟨⟨by omega, by omega⟩, by omega⟩)))))))
    simp only [Bool.or_eq_true, decide_eq_true_eq]; omega
  rintro _ rfl
  exact ok_some rfl
theorem NCheck_ok : Ok (P_netlist_Check n l) (fun r => r = 0) := by
  have b := h.flopL
  have c := h.gateL
  have h8 := hl.len
  unfold P_netlist_Check
  refine ok_bd (Form_ok hl h hi hf hg ho) ?_
  rintro _ rfl
  refine ok_f (by simp) (ok_bs1 (R := fun _ => True) ?_ fun _ _ => ok_bs1 (R := fun _ => True) ?_ fun _ _ => ok_some rfl)
  · refine ok_lp (fun y => 0 ≤ y ∧ y ≤ gates) (fun y => (gates - y).toNat) ⟨by omega, by omega⟩ (by omega) ?_
    rintro y ⟨h0, h1⟩
    unfold P_netlist_Check_L5
    refine ok_ite (fun hlt => ?_) fun hge => ok_some ⟨(), rfl, trivial⟩
    obtain ⟨q1, q2, q3, q4⟩ := h.gate y ⟨h0, hlt⟩
    refine ok_ck ⟨h0, hlt⟩ (ok_lv (ok_bd (R := fun r => r = 0) ?_ ?_))
    · unfold P_netlist_gate
      refine ok_f (by omega) (ok_lv (ok_f (by simp only [Bool.or_eq_true, decide_eq_true_eq]; omega) (ok_ck ⟨by omega, by omega⟩ (ok_lv (ok_f (by rw [hl.flopA q1]; simp) (ok_ck ⟨by omega, by omega⟩ (ok_lv (ok_ck (fun _ => ⟨by omega, by omega⟩) (ok_lv (ok_f ?_ (ok_some rfl)))))))))))
      simp only [Bool.or_eq_true, decide_eq_true_eq]
      rw [q2, q3]; simp
    rintro _ rfl
    exact ok_f (by simp) (ok_ar (by omega) (ok_some ⟨⟨by omega, by omega⟩, by omega⟩))
  · refine ok_lp (fun y => 0 ≤ y ∧ y ≤ flops) (fun y => (flops - y).toNat) ⟨by omega, by omega⟩ (by omega) ?_
    rintro y ⟨h0, h1⟩
    unfold P_netlist_Check_L12
    refine ok_ite (fun hlt => ?_) fun hge => ok_some ⟨(), rfl, trivial⟩
    obtain ⟨-, -, q2⟩ := h.flop y ⟨h0, hlt⟩
    refine ok_ck ⟨h0, hlt⟩ (ok_lv (ok_bd (R := fun r => r = 0) ?_ ?_))
    · unfold P_netlist_flop
      refine ok_f (by omega) (ok_lv (ok_f (by simp only [Bool.or_eq_true, decide_eq_true_eq]; omega) (ok_ck ⟨by omega, by omega⟩ (ok_lv (ok_f ?_ (ok_ck ⟨by omega, by omega⟩ (ok_lv (ok_lv (ok_f ?_ (ok_some rfl))))))))))
      · rcases q2 with ⟨e, -⟩ | ⟨e, -⟩ <;> rw [e]
        · rw [hl.c6.flop]; simp
        · rw [hl.c7.flop]; simp
      · simp only [Bool.and_eq_true, decide_eq_true_eq]
        rcases q2 with ⟨e, e2⟩ | ⟨e, -⟩
        · omega
        · rw [e, hl.c7.ins]; omega
    rintro _ rfl
    exact ok_f (by simp) (ok_ar (by omega) (ok_some ⟨⟨by omega, by omega⟩, by omega⟩))
theorem CheckChip_ok : Ok (P_floor_CheckChip n l) (fun r => r = 0) := by
  have b := h.flopL
  have c := h.gateL
  unfold P_floor_CheckChip
  refine ok_bd (CheckLib_ok hl) ?_
  rintro _ rfl
  refine ok_f (by simp) (ok_bd (NCheck_ok hl h hi hf hg ho) ?_)
  rintro _ rfl
  refine ok_f (by simp) (ok_bs1 (R := fun _ => True) ?_ fun _ _ => ok_bs1 (R := fun _ => True) ?_ fun _ _ => ok_ar (by omega) (ok_f (by omega) (ok_some rfl)))
  · refine ok_lp (fun y => 0 ≤ y ∧ y ≤ gates) (fun y => (gates - y).toNat) ⟨by omega, by omega⟩ (by omega) ?_
    rintro y ⟨h0, h1⟩
    unfold P_floor_CheckChip_L8
    refine ok_ite (fun hlt => ?_) fun hge => ok_some ⟨(), rfl, trivial⟩
    obtain ⟨q1, -⟩ := h.gate y ⟨h0, hlt⟩
    exact ok_ck ⟨h0, hlt⟩ (ok_lv (ok_f (by omega) (ok_ar (by omega) (ok_some ⟨⟨by omega, by omega⟩, by omega⟩))))
  · refine ok_lp (fun y => 0 ≤ y ∧ y ≤ flops) (fun y => (flops - y).toNat) ⟨by omega, by omega⟩ (by omega) ?_
    rintro y ⟨h0, h1⟩
    unfold P_floor_CheckChip_L14
    refine ok_ite (fun hlt => ?_) fun hge => ok_some ⟨(), rfl, trivial⟩
    obtain ⟨-, -, q2⟩ := h.flop y ⟨h0, hlt⟩
    exact ok_ck ⟨h0, hlt⟩ (ok_lv (ok_f (by omega) (ok_ar (by omega) (ok_some ⟨⟨by omega, by omega⟩, by omega⟩))))
end
end Go.Proofs.YtlolchgeedegdaaDoor.X
