/- EcoKeeps. Plain. -/
import Derived.Test.YtlolchgeedegdaaDoorFA
import Derived.Test.YtlolchgeedegdaaDoorYV
namespace Go.Proofs.YtlolchgeedegdaaDoor.X
open Go Go.RowKit
set_option linter.unusedVariables false
set_option linter.unusedSimpArgs false
set_option linter.unusedSectionVars false
theorem cloneS_ok (xs : List ByteArray) (h : xs.length ≤ 10000) : Ok (P_slices_Clone_string_string xs) (fun r => r = xs) := by
  unfold P_slices_Clone_string_string
  exact ok_lv (ok_ck (by simp only [apOk, List.nil_append]; omega) (ok_some (List.nil_append _)))
theorem cloneF_ok (xs : List T_api_Flop) (h : xs.length ≤ 10000) : Ok (P_slices_Clone_api_Flop_api_Flop xs) (fun r => r = xs) := by
  unfold P_slices_Clone_api_Flop_api_Flop
  exact ok_lv (ok_ck (by simp only [apOk, List.nil_append]; omega) (ok_some (List.nil_append _)))
theorem cloneG_ok (xs : List T_api_Gate) (h : xs.length ≤ 10000) : Ok (P_slices_Clone_api_Gate_api_Gate xs) (fun r => r = xs) := by
  unfold P_slices_Clone_api_Gate_api_Gate
  exact ok_lv (ok_ck (by simp only [apOk, List.nil_append]; omega) (ok_some (List.nil_append _)))
theorem cloneG2_ok (xs : List T_api_Gate) (h : xs.length ≤ 10000) : Ok (P_slices_Clone_api_Gate_api_Gate_2 xs) (fun r => r = xs) := by
  unfold P_slices_Clone_api_Gate_api_Gate_2
  exact ok_lv (ok_ck (by simp only [apOk, List.nil_append]; omega) (ok_some (List.nil_append _)))
theorem cloneI_ok (xs : List Int) (h : xs.length ≤ 10000) : Ok (P_slices_Clone_int_int xs) (fun r => r = xs) := by
  unfold P_slices_Clone_int_int
  exact ok_lv (ok_ck (by simp only [apOk, List.nil_append]; omega) (ok_some (List.nil_append _)))
theorem equalI_ok (xs : List Int) (h : xs.length ≤ 10000) : Ok (P_slices_Equal_int_int xs xs) (fun r => r = true) := by
  unfold P_slices_Equal_int_int
  refine ok_f (by simp) (ok_bs1 (R := fun _ => True) ?_ fun _ _ => ok_some rfl)
  refine ok_lp (fun y => 0 ≤ y ∧ y ≤ xs.length) (fun y => ((xs.length : Int) - y).toNat) ⟨by omega, by omega⟩ (by omega) ?_
  rintro y ⟨h0, h1⟩
  unfold P_slices_Equal_int_int_L4
  exact ok_ite (fun hlt => ok_ck ⟨h0, hlt⟩ (ok_lv (ok_ck ⟨h0, hlt⟩ (ok_lv (ok_f (by simp) (ok_ar (by omega) (ok_some ⟨⟨by omega, by omega⟩, by omega⟩))))))) fun hge => ok_some ⟨(), rfl, trivial⟩
theorem equalS_ok (xs : List ByteArray) (h : xs.length ≤ 10000) : Ok (P_slices_Equal_string_string xs xs) (fun r => r = true) := by
  unfold P_slices_Equal_string_string
  refine ok_f (by simp) (ok_bs1 (R := fun _ => True) ?_ fun _ _ => ok_some rfl)
  refine ok_lp (fun y => 0 ≤ y ∧ y ≤ xs.length) (fun y => ((xs.length : Int) - y).toNat) ⟨by omega, by omega⟩ (by omega) ?_
  rintro y ⟨h0, h1⟩
  unfold P_slices_Equal_string_string_L4
  exact ok_ite (fun hlt => ok_ck ⟨h0, hlt⟩ (ok_lv (ok_ck ⟨h0, hlt⟩ (ok_lv (ok_f (by simp) (ok_ar (by omega) (ok_some ⟨⟨by omega, by omega⟩, by omega⟩))))))) fun hge => ok_some ⟨(), rfl, trivial⟩
theorem equalF_ok (xs : List T_api_Flop) (h : xs.length ≤ 10000) : Ok (P_slices_Equal_api_Flop_api_Flop xs xs) (fun r => r = true) := by
  unfold P_slices_Equal_api_Flop_api_Flop
  refine ok_f (by simp) (ok_bs1 (R := fun _ => True) ?_ fun _ _ => ok_some rfl)
  refine ok_lp (fun y => 0 ≤ y ∧ y ≤ xs.length) (fun y => ((xs.length : Int) - y).toNat) ⟨by omega, by omega⟩ (by omega) ?_
  rintro y ⟨h0, h1⟩
  unfold P_slices_Equal_api_Flop_api_Flop_L4
  exact ok_ite (fun hlt => ok_ck ⟨h0, hlt⟩ (ok_lv (ok_ck ⟨h0, hlt⟩ (ok_lv (ok_lv (ok_f (by simp) (ok_ar (by omega) (ok_some ⟨⟨by omega, by omega⟩, by omega⟩)))))))) fun hge => ok_some ⟨(), rfl, trivial⟩
theorem equalG_ok (xs : List T_api_Gate) (h : xs.length ≤ 10000) (hi : ∀ i, inb i xs.length → (gt xs i).Ins.length ≤ 10000) : Ok (P_slices_EqualFunc_api_Gate_api_Gate_api_Gate_api_Gate xs xs) (fun r => r = true) := by
  unfold P_slices_EqualFunc_api_Gate_api_Gate_api_Gate_api_Gate
  refine ok_f (by simp) (ok_bs1 (R := fun _ => True) ?_ fun _ _ => ok_some rfl)
  refine ok_lp (fun y => 0 ≤ y ∧ y ≤ xs.length) (fun y => ((xs.length : Int) - y).toNat) ⟨by omega, by omega⟩ (by omega) ?_
  rintro y ⟨h0, h1⟩
  unfold P_slices_EqualFunc_api_Gate_api_Gate_api_Gate_api_Gate_L4
  refine ok_ite (fun hlt => ok_ck ⟨h0, hlt⟩ (ok_lv (ok_ck ⟨h0, hlt⟩ (ok_lv (ok_bd (R := fun r => r = true) ?_ ?_))))) fun hge => ok_some ⟨(), rfl, trivial⟩
  · unfold P_netlist_Same_1
    refine ok_lv (ok_bd (R := fun r => r = true) (ok_gd (fun _ => equalI_ok _ (hi y ⟨h0, hlt⟩)) fun hq => by simp at hq) ?_)
    rintro _ rfl
    exact ok_lv (ok_some (by simp))
  rintro _ rfl
  exact ok_f (by simp) (ok_ar (by omega) (ok_some ⟨⟨by omega, by omega⟩, by omega⟩))
theorem edits_ok : Ok P_maskkeep4_edits (fun r => r = true) := ⟨true, by decide +kernel, rfl⟩
section
variable {n : T_api_Netlist} {l : List T_api_Cell} {ins flops gates outs : Int} (hl : Lib8 l) (h : PlacedN n l ins flops gates outs) (hi : 1 ≤ ins ∧ ins ≤ 3) (hf : 0 ≤ flops ∧ flops ≤ 3) (hg : 0 ≤ gates ∧ gates ≤ 9) (ho : 1 ≤ outs ∧ outs ≤ 3)
include hl h hi hf hg ho
theorem gins_ok : ∀ i, inb i n.Gates.length → (gt n.Gates i).Ins.length ≤ 3 := fun i hb => by
  obtain ⟨q1, -, q3, -⟩ := h.gate i hb
  have := hl.ins q1
  omega
theorem Copy_ok : Ok (P_netlist_Copy n) (fun r => n = r) := by
  have a := h.inL
  have b := h.outL
  have c := h.flopL
  have d := h.gateL
  have e := h.outsL
  unfold P_netlist_Copy
  refine ok_bd (cloneS_ok _ (by omega)) ?_
  rintro _ rfl
  refine ok_bd (cloneS_ok _ (by omega)) ?_
  rintro _ rfl
  refine ok_bd (cloneF_ok _ (by omega)) ?_
  rintro _ rfl
  refine ok_bd (cloneG_ok _ (by omega)) ?_
  rintro _ rfl
  refine ok_bd (cloneI_ok _ (by omega)) ?_
  rintro _ rfl
  refine ok_bd (R := fun r => r = n.Gates) ?_ ?_
  · refine ok_lp (fun s => (0 ≤ s.1 ∧ s.1 ≤ gates) ∧ s.2 = n.Gates) (fun s => (gates - s.1).toNat) ⟨⟨by simp, by simp only; omega⟩, rfl⟩ (by simp only; omega) ?_
    rintro ⟨y, gs⟩ ⟨⟨y0, y1⟩, y2⟩
    simp only at y0 y1 y2
    subst y2
    unfold P_netlist_Copy_L3
    dsimp only
    refine ok_ite (fun hlt => ?_) fun hge => ok_some rfl
    have hk := gins_ok hl h hi hf hg ho y ⟨y0, hlt⟩
    refine ok_ck ⟨y0, hlt⟩ (ok_lv (ok_bd (cloneI_ok _ (by omega)) ?_))
    rintro _ rfl
    refine ok_ck ⟨y0, hlt⟩ (ok_lv (ok_ar (by omega) (ok_some ⟨⟨⟨by simp only; omega, by simp only; omega⟩, ?_⟩, by simp only; omega⟩)))
    simp only
    exact stt_gt n.Gates ⟨y0, hlt⟩
  rintro _ rfl
  exact ok_some rfl
theorem Nets_ok : Ok (P_netlist_Nets n) (fun r => r = 2 + ins + flops + gates) := by
  have a := h.gateL
  unfold P_netlist_Nets
  refine ok_bd (First_ok hl h (by omega) (by omega) (by omega) (by omega)) ?_
  rintro _ rfl
  exact ok_ar (by omega) (ok_some (by omega))
theorem PlacedN.addGate {g : T_api_Gate} (g1 : 0 ≤ g.Cell ∧ g.Cell < 6) (g2 : g.Table = (gt l g.Cell).Table) (g3 : (g.Ins.length : Int) = (gt l g.Cell).Ins) (g4 : All (fun _ x => 0 ≤ x ∧ x < 2 + ins + flops + gates) g.Ins) : PlacedN ⟨n.In, n.Out, n.Flops, n.Gates ++ [g], n.Outs⟩ l ins flops (gates + 1) outs := by
  obtain ⟨h1, h2, h3, h4, h5, h6, h7, h8, h9, h10⟩ := h
  refine ⟨h1, h2, h3, h4, by simp only [List.length_append, List.length_singleton]; omega, h6, h7, h8.mono fun i x _ hx => by omega, h9.mono fun i x _ hx => ⟨hx.1, by omega, by omega⟩, h10.snoc ⟨g1, g2, g3, ?_⟩⟩
  rw [h5]
  exact g4
theorem PlacedN.setOut {o net : Int} (h0 : 0 ≤ o ∧ o < outs) (h1 : 0 ≤ net ∧ net < 2 + ins + flops + gates) : PlacedN ⟨n.In, n.Out, n.Flops, n.Gates, stt n.Outs o net⟩ l ins flops gates outs := by
  obtain ⟨q1, q2, q3, q4, q5, q6, q7, q8, q9, q10⟩ := h
  refine ⟨q1, q2, by simp only [stt_length]; exact q3, q4, q5, q6, q7, fun i hi => ?_, q9, q10⟩
  simp only [stt_length] at hi
  simp only
  rw [gt_stt _ _ ⟨h0.1, by omega⟩ hi.1]
  split
  · exact h1
  · exact q8 i hi
theorem applyAdd_ok {g : T_api_Gate} (hg8 : gates ≤ 8) (g1 : 0 ≤ g.Cell ∧ g.Cell < 6) (g2 : g.Table = (gt l g.Cell).Table) (g3 : (g.Ins.length : Int) = (gt l g.Cell).Ins) (g4 : All (fun _ x => 0 ≤ x ∧ x < 2 + ins + flops + gates) g.Ins) :
    Ok (P_eco_apply n l ⟨0, g, 0, 0, 0⟩) (fun r => r.1 = 0 ∧ r.2.1 = n.Flops ∧ r.2.2.1 = n.Gates ++ [g] ∧ r.2.2.2 = n.Outs) := by
  have a := h.gateL
  have b := h.flopL
  have hk := hl.ins g1
  unfold P_eco_apply
  refine ok_lv (ok_f (by simp) (ok_bd (R := fun r => r = true) ?_ ?_))
  · unfold P_eco_valid
    exact ok_t rfl (ok_lv (ok_lv (ok_some (by simp))))
  rintro _ rfl
  refine ok_f (by simp) (ok_t rfl (ok_bd (R := fun r => r.1 = 0 ∧ r.2 = n.Gates ++ [g]) ?_ ?_))
  · unfold P_eco_add
    refine ok_ar (by omega) (ok_f (by omega) (ok_bd (cloneG2_ok _ (by omega)) ?_))
    rintro _ rfl
    refine ok_bd (cloneI_ok _ (by simp only; omega)) ?_
    rintro _ rfl
    refine ok_lv (ok_ck (by simp only [apOk, List.length_append, List.length_singleton]; omega) (ok_bd (CheckChip_ok hl (PlacedN.addGate hl h hi hf hg ho g1 g2 g3 g4) (by omega) (by omega) (by omega) (by omega)) ?_))
    rintro _ rfl
    exact ok_f (by simp) (ok_some ⟨rfl, rfl⟩)
  rintro r ⟨r1, r2⟩
  exact ok_some ⟨r1, rfl, r2, rfl⟩
theorem applyOut_ok {o net : Int} (h0 : 0 ≤ o ∧ o < outs) (h1 : 0 ≤ net ∧ net < 2 + ins + flops + gates) :
    Ok (P_eco_apply n l ⟨3, ⟨0, 0, []⟩, o, 0, net⟩) (fun r => r.1 = 0 ∧ r.2.1 = n.Flops ∧ r.2.2.1 = n.Gates ∧ r.2.2.2 = stt n.Outs o net) := by
  have a := h.outsL
  unfold P_eco_apply
  refine ok_lv (ok_f (by simp) (ok_bd (R := fun r => r = true) ?_ ?_))
  · unfold P_eco_valid
    refine ok_f (by simp) (ok_bd (R := fun r => r = true) (ok_t rfl (ok_some (by simp))) ?_)
    rintro _ rfl
    refine ok_t rfl (ok_bd (R := fun r => r = true) ?_ ?_)
    · unfold P_eco_blank
      exact ok_lv (ok_lv (ok_some (by simp)))
    rintro _ rfl
    exact ok_lv (ok_some (by simp))
  rintro _ rfl
  refine ok_f (by simp) (ok_f (by simp) (ok_f (by simp) (ok_bd (R := fun r => r = 2 + ins + flops + gates) (ok_gd (fun _ => Nets_ok hl h hi hf hg ho) fun hq => by simp at hq; omega) ?_)))
  rintro _ rfl
  refine ok_lv (ok_f (by simp only [Bool.or_eq_true, decide_eq_true_eq]; omega) ?_)
  refine ok_bs1 (R := fun r => r = (n.Flops, stt n.Outs o net)) (ok_f (by simp) (ok_bs1 (R := fun r => r = (n.Flops, stt n.Outs o net)) (ok_f (by simp) (ok_bs1 (R := fun r => r = stt n.Outs o net) (ok_t rfl ?_) ?_)) ?_)) ?_
  · exact ok_lv (ok_f (by simp only [Bool.or_eq_true, decide_eq_true_eq]; omega) (ok_ck ⟨h0.1, by simp only; omega⟩ (ok_lv (ok_some ⟨_, rfl, rfl⟩))))
  · rintro _ rfl
    exact ok_some ⟨_, rfl, rfl⟩
  · rintro _ rfl
    exact ok_some ⟨_, rfl, rfl⟩
  · rintro _ rfl
    exact ok_some ⟨rfl, rfl, rfl, rfl⟩
theorem Apply1_ok {o net : Int} (h0 : 0 ≤ o ∧ o < outs) (h1 : 0 ≤ net ∧ net < 2 + ins + flops + gates) :
    Ok (P_eco_Apply n l [⟨3, ⟨0, 0, []⟩, o, 0, net⟩]) (fun r => r.1 = ⟨n.In, n.Out, n.Flops, n.Gates, stt n.Outs o net⟩ ∧ r.2.1 = 0 ∧ r.2.2 = 0) := by
  unfold P_eco_Apply
  refine ok_bd (CheckChip_ok hl h (by omega) (by omega) (by omega) (by omega)) ?_
  rintro _ rfl
  refine ok_f (by simp) (ok_f (by simp) (ok_bd (Copy_ok hl h hi hf hg ho) ?_))
  rintro _ rfl
  refine ok_bs1 (R := fun r => r = (n.Flops, n.Gates, stt n.Outs o net)) ?_ ?_
  · refine ok_lp (fun s => (s.1 = 0 ∧ s.2 = (n.Flops, n.Gates, n.Outs)) ∨ (s.1 = 1 ∧ s.2 = (n.Flops, n.Gates, stt n.Outs o net))) (fun s => (1 - s.1).toNat) (.inl ⟨rfl, rfl⟩) (by simp) ?_
    rintro ⟨y, s⟩ (⟨e1, e2⟩ | ⟨e1, e2⟩) <;> simp only at e1 e2 <;> subst e1 <;> subst e2 <;> unfold P_eco_Apply_L8 <;> dsimp only
    · refine ok_t (by simp) (ok_ck ⟨by omega, by simp⟩ (ok_lv ?_))
      rw [show gt [(⟨3, ⟨0, 0, []⟩, o, 0, net⟩ : T_eco_Edit)] 0 = ⟨3, ⟨0, 0, []⟩, o, 0, net⟩ from rfl]
      refine ok_bd (applyOut_ok hl h hi hf hg ho h0 h1) ?_
      rintro r ⟨r1, r2, r3, r4⟩
      exact ok_f (by omega) (ok_ar (by omega) (ok_some ⟨.inr ⟨rfl, by rw [r2, r3, r4]⟩, by simp⟩))
    · exact ok_f (by simp) (ok_some ⟨_, rfl, rfl⟩)
  rintro _ rfl
  exact ok_some ⟨rfl, rfl, rfl⟩
theorem Apply2_ok {g : T_api_Gate} (hg8 : gates ≤ 8) (g1 : 0 ≤ g.Cell ∧ g.Cell < 6) (g2 : g.Table = (gt l g.Cell).Table) (g3 : (g.Ins.length : Int) = (gt l g.Cell).Ins) (g4 : All (fun _ x => 0 ≤ x ∧ x < 2 + ins + flops + gates) g.Ins)
    {o net : Int} (h0 : 0 ≤ o ∧ o < outs) (h1 : 0 ≤ net ∧ net < 2 + ins + flops + (gates + 1)) :
    Ok (P_eco_Apply n l [⟨0, g, 0, 0, 0⟩, ⟨3, ⟨0, 0, []⟩, o, 0, net⟩]) (fun r => r.1 = ⟨n.In, n.Out, n.Flops, n.Gates ++ [g], stt n.Outs o net⟩ ∧ r.2.1 = 0 ∧ r.2.2 = 0) := by
  have hP := PlacedN.addGate hl h hi hf hg ho g1 g2 g3 g4
  unfold P_eco_Apply
  refine ok_bd (CheckChip_ok hl h (by omega) (by omega) (by omega) (by omega)) ?_
  rintro _ rfl
  refine ok_f (by simp) (ok_f (by simp) (ok_bd (Copy_ok hl h hi hf hg ho) ?_))
  rintro _ rfl
  refine ok_bs1 (R := fun r => r = (n.Flops, n.Gates ++ [g], stt n.Outs o net)) ?_ ?_
  · refine ok_lp (fun s => (s.1 = 0 ∧ s.2 = (n.Flops, n.Gates, n.Outs)) ∨ (s.1 = 1 ∧ s.2 = (n.Flops, n.Gates ++ [g], n.Outs)) ∨ (s.1 = 2 ∧ s.2 = (n.Flops, n.Gates ++ [g], stt n.Outs o net))) (fun s => (2 - s.1).toNat) (.inl ⟨rfl, rfl⟩) (by simp) ?_
    rintro ⟨y, s⟩ (⟨e1, e2⟩ | ⟨e1, e2⟩ | ⟨e1, e2⟩) <;> simp only at e1 e2 <;> subst e1 <;> subst e2 <;> unfold P_eco_Apply_L8 <;> dsimp only
    · refine ok_t (by simp) (ok_ck ⟨by omega, by simp⟩ (ok_lv ?_))
      rw [show gt [(⟨0, g, 0, 0, 0⟩ : T_eco_Edit), ⟨3, ⟨0, 0, []⟩, o, 0, net⟩] 0 = ⟨0, g, 0, 0, 0⟩ from rfl]
      refine ok_bd (applyAdd_ok hl h hi hf hg ho hg8 g1 g2 g3 g4) ?_
      rintro r ⟨r1, r2, r3, r4⟩
      exact ok_f (by omega) (ok_ar (by omega) (ok_some ⟨.inr (.inl ⟨rfl, by rw [r2, r3, r4]⟩), by simp⟩))
    · refine ok_t (by simp) (ok_ck ⟨by omega, by simp⟩ (ok_lv ?_))
      rw [show gt [(⟨0, g, 0, 0, 0⟩ : T_eco_Edit), ⟨3, ⟨0, 0, []⟩, o, 0, net⟩] 1 = ⟨3, ⟨0, 0, []⟩, o, 0, net⟩ from rfl]
      refine ok_bd (applyOut_ok hl hP hi hf (by omega) ho h0 (by omega)) ?_
      rintro r ⟨r1, r2, r3, r4⟩
      exact ok_f (by omega) (ok_ar (by omega) (ok_some ⟨.inr (.inr ⟨rfl, by rw [r2, r3, r4]⟩), by simp⟩))
    · exact ok_f (by simp) (ok_some ⟨_, rfl, rfl⟩)
  rintro _ rfl
  exact ok_some ⟨rfl, rfl, rfl⟩
theorem Same_ok : Ok (P_netlist_Same n n) (fun r => r = true) := by
  have a := h.inL
  have b := h.outL
  have c := h.flopL
  have d := h.gateL
  have e := h.outsL
  unfold P_netlist_Same
  refine ok_bd (equalS_ok _ (by omega)) ?_
  rintro _ rfl
  refine ok_bd (R := fun r => r = true) (ok_gd (fun _ => equalS_ok _ (by omega)) fun hq => by simp at hq) ?_
  rintro _ rfl
  refine ok_lv (ok_bd (R := fun r => r = true) (ok_gd (fun _ => equalF_ok _ (by omega)) fun hq => by simp at hq) ?_)
  rintro _ rfl
  refine ok_lv (ok_bd (R := fun r => r = true) (ok_gd (fun _ => equalG_ok _ (by omega) fun i hb => by have := gins_ok hl h hi hf hg ho i hb; omega) fun hq => by simp at hq) ?_)
  rintro _ rfl
  refine ok_lv (ok_bd (R := fun r => r = true) (ok_gd (fun _ => equalI_ok _ (by omega)) fun hq => by simp at hq) ?_)
  rintro _ rfl
  exact ok_lv (ok_some rfl)
end
theorem EcoKeeps_ok {L : List Int} (hL : Strm L) : Ok (P_maskkeep4_EcoKeeps L) (fun r => r = true) := by
  unfold P_maskkeep4_EcoKeeps
  refine ok_bd (R := fun r => ∃ ins flops gates outs, Lib8 r.2.1 ∧ PlacedN r.1 r.2.1 ins flops gates outs ∧ (1 ≤ ins ∧ ins ≤ 3) ∧ (0 ≤ flops ∧ flops ≤ 3) ∧ (0 ≤ gates ∧ gates ≤ 8) ∧ (1 ≤ outs ∧ outs ≤ 3) ∧ 0 ≤ r.2.2 ∧ r.2.2 ≤ 8000) ?_ ?_
  · unfold P_maskkeep4_small
    refine ok_bd (LayLib_ok hL (k := 0) (by omega) (by omega)) ?_
    rintro ⟨l, k1⟩ ⟨hl, a1, a2⟩
    simp only at hl a1 a2
    refine ok_bd (hL.range (by simp only; omega) (by omega) (by omega) (by omega)) ?_
    rintro ⟨ins, k2⟩ ⟨i1, i2, rfl⟩
    refine ok_bd (hL.next (by simp only; omega) (by omega)) ?_
    rintro ⟨flops, k3⟩ ⟨f1, f2, -, rfl⟩
    refine ok_bd (hL.next (by simp only; omega) (by omega)) ?_
    rintro ⟨gates, k4⟩ ⟨g1, g2, -, rfl⟩
    refine ok_bd (hL.range (by simp only; omega) (by omega) (by omega) (by omega)) ?_
    rintro ⟨outs, k5⟩ ⟨o1, o2, rfl⟩
    have f2 := f2 (by omega)
    have g2 := g2 (by omega)
    simp only at i1 i2 f1 f2 g1 g2 o1 o2
    refine ok_bd (Placed_ok hL (by simp only; omega) (by simp only; omega) hl (ins := ins) (flops := flops) (gates := gates) (outs := outs) (by omega) (by omega) (by omega) (by omega)) ?_
    rintro ⟨n, k6⟩ ⟨hn, b1, b2⟩
    simp only at hn b1 b2
    exact ok_some ⟨ins, flops, gates, outs, hl, hn, by omega, by omega, by omega, by omega, by simp only; omega, by simp only; omega⟩
  rintro ⟨n, l, k⟩ ⟨ins, flops, gates, outs, hl, hn, hi, hf, hg, ho, k0, k1⟩
  simp only at hl hn k0 k1
  have gL := hn.gateL
  have oL := hn.outsL
  refine ok_bd (Nets_ok hl hn hi hf (by omega) ho) ?_
  rintro _ rfl
  refine ok_bd (hL.next (by simp only; omega) (by omega)) ?_
  rintro ⟨x, k2⟩ ⟨x0, x1, -, rfl⟩
  have x1 := x1 (by omega)
  simp only at x0 x1
  refine ok_bd (hL.next (by simp only; omega) (by simp only; omega)) ?_
  rintro ⟨o, k3⟩ ⟨o0, o1, -, rfl⟩
  have o1 := o1 (by simp only; omega)
  simp only at o0 o1
  have hG : All (fun _ y => 0 ≤ y ∧ y < 2 + ins + flops + gates) [x] := All.snoc (xs := []) All.nil ⟨x0, x1⟩
  refine ok_bd (Apply2_ok hl hn hi hf (by omega) ho (g := ⟨1, 1, [x]⟩) (o := o) (net := 2 + ins + flops + gates) (by omega) ⟨by simp, by simp⟩ hl.c1.table.symm hl.c1.ins.symm hG ⟨o0, by omega⟩ (by omega)) ?_
  rintro ⟨y, e1, e2⟩ ⟨y1, y2, y3⟩
  simp only at y1 y2 y3
  subst y1; subst y2; subst y3
  refine ok_bd edits_ok ?_
  rintro _ rfl
  refine ok_lv (ok_lv (ok_ck (fun _ => by simp only; omega) (ok_lv (ok_lv (ok_f (by simp) (ok_ck ⟨o0, o1⟩ (ok_lv ?_)))))))
  have hP := PlacedN.addGate hl hn hi hf (by omega) ho (g := ⟨1, 1, [x]⟩) ⟨by simp, by simp⟩ hl.c1.table.symm hl.c1.ins.symm hG
  have hP2 := PlacedN.setOut hl hP hi hf (by omega) ho (o := o) (net := 2 + ins + flops + gates) ⟨o0, by omega⟩ (by omega)
  have hO := hn.outs o ⟨o0, o1⟩
  simp only at hO
  refine ok_bd (Apply1_ok hl hP2 hi hf (by omega) ho (o := o) (net := gt n.Outs o) ⟨o0, by omega⟩ (by omega)) ?_
  rintro ⟨z, e3, e4⟩ ⟨z1, z2, z3⟩
  simp only at z1 z2 z3
  subst z1; subst z2; subst z3
  refine ok_f (by simp) (ok_ck ⟨by omega, by omega, by simp only [List.length_append, List.length_singleton]; omega⟩ (ok_lv ?_))
  have hs : X.sub (n.Gates ++ [(⟨1, 1, [x]⟩ : T_api_Gate)]) 0 (n.Gates.length : Int) = n.Gates := by simp [X.sub]
  have ht : stt (stt n.Outs o (2 + ins + flops + gates)) o (gt n.Outs o) = n.Outs := by
    refine ext_gt (by rw [stt_length, stt_length]) fun q h0 h1 => ?_
    rw [stt_length, stt_length] at h1
    rw [gt_stt _ _ (by rw [stt_length]; exact ⟨o0, o1⟩) h0]
    split
    · rename_i e; rw [e]
    · rename_i e; rw [gt_stt _ _ ⟨o0, o1⟩ h0, if_neg e]
  simp only [hs, ht]
  exact (ok_bd (Same_ok hl hn hi hf (by omega) ho) fun r hr => ok_some hr)
end Go.Proofs.YtlolchgeedegdaaDoor.X
