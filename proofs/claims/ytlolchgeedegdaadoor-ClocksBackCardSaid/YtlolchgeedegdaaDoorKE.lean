/- Limits are taken: Check, CheckFor. Plain. -/
import Derived.Test.YtlolchgeedegdaaDoorKD
namespace Go.Proofs.YtlolchgeedegdaaDoor.X
open Go Go.RowKit
set_option linter.unusedVariables false
set_option linter.unusedSimpArgs false
set_option linter.unusedSectionVars false
theorem sub_len {α : Type} (xs : List α) {b : Int} (h0 : 0 ≤ b) (h1 : b ≤ xs.length) : ((X.sub xs 0 b).length : Int) = b := by simp [X.sub]; omega
theorem gt_sub0 {α : Type} [Inhabited α] (xs : List α) {b i : Int} (h0 : 0 ≤ i) (h1 : i < b) : gt (X.sub xs 0 b) i = gt xs i := by
  have : i.toNat < b.toNat := by omega
  simp [gt, X.sub, this]
theorem cname_ok {s : ByteArray} (h : Word s) : Ok (P_clocks_name s) (fun r => r = true) := by
  have a := h.pos
  have b := h.le
  unfold P_clocks_name
  refine ok_bs1 (R := fun _ => True) ?_ fun _ _ => ok_lv (ok_some ?_)
  · refine ok_lp (fun y => 0 ≤ y ∧ y ≤ s.size) (fun y => ((s.size : Int) - y).toNat) ⟨by omega, by omega⟩ (by omega) ?_
    rintro y ⟨y0, y1⟩
    unfold P_clocks_name_L2
    refine ok_ite (fun hlt => ?_) fun hge => ok_some ⟨(), rfl, trivial⟩
    have hb := h.byte y ⟨y0, hlt⟩
    exact ok_ck ⟨y0, hlt⟩ (ok_lv (ok_ck (fun _ => ⟨y0, hlt⟩) (ok_lv (ok_lv (ok_f (by simp only [Bool.or_eq_true, decide_eq_true_eq]; omega) (ok_ar (by omega) (ok_some ⟨⟨by omega, by omega⟩, by omega⟩)))))))
  · have hne : s ≠ (⟨#[]⟩ : ByteArray) := by
      rintro rfl
      simp only [sz_lit, List.size_toArray, List.length_nil] at a
      omega
    rw [decide_eq_true hne, Bool.true_and, decide_eq_true_eq]
    omega
theorem contains_ok (xs : List ByteArray) (x : ByteArray) (hl : xs.length ≤ 1000) : Ok (P_slices_Contains_string_string xs x) (fun r => (∃ a, inb a xs.length ∧ x = gt xs a) → r = true) := by
  unfold P_slices_Contains_string_string
  refine ok_bd (R := fun r => (∃ a, inb a xs.length ∧ x = gt xs a) → 0 ≤ r) ?_ fun r hr => ok_some fun h => decide_eq_true (hr h)
  unfold P_slices_Index_string_string
  refine ok_bs (R := fun o => (∀ z : Int, o = Sum.inr z → 0 ≤ z) ∧ (∀ u : Unit, o = Sum.inl u → ∀ a, inb a xs.length → x ≠ gt xs a)) ?_ ?_ ?_
  · refine ok_lp (fun y => (0 ≤ y ∧ y ≤ xs.length) ∧ ∀ a, 0 ≤ a → a < y → x ≠ gt xs a) (fun y => ((xs.length : Int) - y).toNat) ⟨⟨by omega, by omega⟩, fun a h0 h1 => by omega⟩ (by omega) ?_
    rintro y ⟨⟨y0, y1⟩, y2⟩
    unfold P_slices_Index_string_string_L2
    refine ok_ite (fun hlt => ?_) fun hge => ok_some ⟨fun z hz => (by cases hz), fun u hu a ha => y2 a ha.1 (by have := ha.2; omega)⟩
    refine ok_ck ⟨y0, hlt⟩ (ok_lv (ok_ite (fun he => ok_some ⟨fun z hz => (by cases hz; exact y0), fun u hu => (by cases hu)⟩) fun hne => ok_ar (by omega) (ok_some ⟨⟨⟨by omega, by omega⟩, fun a h0 h1 => ?_⟩, by omega⟩)))
    by_cases e : a = y
    · rw [e]; exact hne
    · exact y2 a h0 (by omega)
  · rintro z ⟨-, h2⟩
    refine ok_some ?_
    rintro ⟨a, ha, e⟩
    exact absurd e (h2 z rfl a ha)
  · rintro z ⟨h1, -⟩
    exact ok_some fun _ => h1 z rfl
theorem known_ok {ns fl : List ByteArray} {s : ByteArray} (h1 : ns.length ≤ 1000) (h2 : fl.length ≤ 1000) (hs : s = (⟨#[]⟩ : ByteArray) ∨ (∃ a, inb a ns.length ∧ s = gt ns a) ∨ ∃ a, inb a fl.length ∧ s = gt fl a) {k : Bool → Option (Int ⊕ (Unit ⊕ Int))} {Q : Int ⊕ (Unit ⊕ Int) → Prop} (hk : Ok (k true) Q) :
    Ok (bd (gd (!(decide (s = (⟨#[]⟩ : ByteArray)))) (P_slices_Contains_string_string ns s)) fun r25_8 =>
      lv ((decide (s = (⟨#[]⟩ : ByteArray))) || r25_8) fun x79 =>
      bd (gd (!x79) (P_slices_Contains_string_string fl s)) fun r25_14 =>
      lv (x79 || r25_14) k) Q := by
  by_cases e : s = (⟨#[]⟩ : ByteArray)
  · simpa [bd, gd, lv, e] using hk
  refine ok_bd (R := fun r => (∃ a, inb a ns.length ∧ s = gt ns a) → r = true) (ok_gd (fun _ => contains_ok ns s h1) fun hq => by simp [e] at hq) ?_
  intro r hr
  cases r with
  | true => simpa [bd, gd, lv, e] using hk
  | false =>
    refine ok_lv ?_
    rw [show (decide (s = (⟨#[]⟩ : ByteArray)) || false) = false by simp [e]]
    refine ok_bd (R := fun r => r = true) (ok_gd (fun _ => (contains_ok fl s h2).mono fun r hr2 => hr2 ?_) fun hq => by simp at hq) ?_
    · rcases hs with q | q | q
      · exact absurd q e
      · exact absurd (hr q) (by simp)
      · exact q
    rintro _ rfl
    exact hk
section
variable {n : T_api_Netlist} {ins flops outs : Int} (h : NetW n ins flops outs) (hi : 1 ≤ ins ∧ ins ≤ 5) (hf : 0 ≤ flops ∧ flops ≤ 4) (ho : 1 ≤ outs ∧ outs ≤ 5)
  {p : Bool} {l : T_clocks_Limits} (hl : LimW n p l) (hp : l.Period ≤ 200)
include h hi hf ho hl hp
theorem CCheck_ok : Ok (P_clocks_Check l) (fun r => r = 0) := by
  have a := hl.inL
  have b := hl.outL
  have c := hl.pL
  have d := hl.per
  have e1 := h.inL
  have e2 := h.outL
  unfold P_clocks_Check
  refine ok_lv (ok_f (by simp only [Bool.or_eq_true, decide_eq_true_eq]; omega) (ok_lv (ok_lv (ok_f (by simp only [Bool.or_eq_true, decide_eq_true_eq]; omega) ?_))))
  refine ok_bs1 (R := fun _ => True) ?_ fun _ _ => ok_bs1 (R := fun _ => True) ?_ fun _ _ => ok_bs1 (R := fun _ => True) ?_ fun _ _ => ok_bd (write_ok h hi hf ho hl hp) ?_
  · refine ok_lp (fun y => 0 ≤ y ∧ y ≤ l.Inputs.length) (fun y => ((l.Inputs.length : Int) - y).toNat) ⟨by omega, by omega⟩ (by omega) ?_
    rintro y ⟨y0, y1⟩
    unfold P_clocks_Check_L6
    refine ok_ite (fun hlt => ?_) fun hge => ok_some ⟨(), rfl, trivial⟩
    obtain ⟨-, hw⟩ := hl.inp y ⟨y0, hlt⟩
    have w1 := hw.lo
    have w2 := hw.le
    have w3 := hw.hi
    refine ok_ck ⟨y0, hlt⟩ (ok_lv (ok_bd (R := fun r => r = true) (cname_ok (word_inp h hi hf ho hl hp ⟨y0, hlt⟩)) ?_))
    rintro _ rfl
    refine ok_f (by simp) (ok_lv (ok_lv (ok_f (by simp only [Bool.or_eq_true, decide_eq_true_eq]; omega) (ok_ck ⟨by omega, y0, by omega⟩ (ok_lv (ok_bd (R := fun r => r = false) ?_ ?_))))))
    · unfold P_slices_ContainsFunc_clocks_Input_clocks_Input
      refine ok_bd (R := fun r => r = -1) ?_ ?_
      · unfold P_slices_IndexFunc_clocks_Input_clocks_Input
        have hsl := sub_len l.Inputs (b := y) y0 (by omega)
        refine ok_bs1 (R := fun _ => True) ?_ fun _ _ => ok_some rfl
        refine ok_lp (fun z => 0 ≤ z ∧ z ≤ y) (fun z => (y - z).toNat) ⟨by omega, by omega⟩ (by omega) ?_
        rintro z ⟨z0, z1⟩
        unfold P_slices_IndexFunc_clocks_Input_clocks_Input_L2
        refine ok_ite (fun hz => ?_) fun hge => ok_some ⟨(), rfl, trivial⟩
        have hne := hl.inD y z z0 (by omega) hlt
        refine ok_ck ⟨z0, by omega⟩ (ok_lv (ok_bd (R := fun _ => True) ⟨(), by unfold P_clocks_Check_1; rfl, trivial⟩ fun _ _ => ?_))
        refine ok_f ?_ (ok_ar (by omega) (ok_some ⟨⟨by omega, by omega⟩, by omega⟩))
        rw [gt_sub0 _ z0 (by omega)]
        exact hne
      rintro _ rfl
      exact ok_some rfl
    rintro _ rfl
    exact ok_f (by simp) (ok_ar (by omega) (ok_some ⟨⟨by omega, by omega⟩, by omega⟩))
  · refine ok_lp (fun y => 0 ≤ y ∧ y ≤ l.Outputs.length) (fun y => ((l.Outputs.length : Int) - y).toNat) ⟨by omega, by omega⟩ (by omega) ?_
    rintro y ⟨y0, y1⟩
    unfold P_clocks_Check_L16
    refine ok_ite (fun hlt => ?_) fun hge => ok_some ⟨(), rfl, trivial⟩
    obtain ⟨-, hw⟩ := hl.out y ⟨y0, hlt⟩
    refine ok_ck ⟨y0, hlt⟩ (ok_lv (ok_bd (R := fun r => r = true) (cname_ok (word_out h hi hf ho hl hp ⟨y0, hlt⟩)) ?_))
    rintro _ rfl
    refine ok_f (by simp) (ok_lv (ok_f (by simp only [Bool.or_eq_true, decide_eq_true_eq]; omega) (ok_ck ⟨by omega, y0, by omega⟩ (ok_lv (ok_bd (R := fun r => r = false) ?_ ?_)))))
    · unfold P_slices_ContainsFunc_clocks_Output_clocks_Output
      refine ok_bd (R := fun r => r = -1) ?_ ?_
      · unfold P_slices_IndexFunc_clocks_Output_clocks_Output
        have hsl := sub_len l.Outputs (b := y) y0 (by omega)
        refine ok_bs1 (R := fun _ => True) ?_ fun _ _ => ok_some rfl
        refine ok_lp (fun z => 0 ≤ z ∧ z ≤ y) (fun z => (y - z).toNat) ⟨by omega, by omega⟩ (by omega) ?_
        rintro z ⟨z0, z1⟩
        unfold P_slices_IndexFunc_clocks_Output_clocks_Output_L2
        refine ok_ite (fun hz => ?_) fun hge => ok_some ⟨(), rfl, trivial⟩
        have hne := hl.outD y z z0 (by omega) hlt
        refine ok_ck ⟨z0, by omega⟩ (ok_lv (ok_bd (R := fun _ => True) ⟨(), by unfold P_clocks_Check_2; rfl, trivial⟩ fun _ _ => ?_))
        refine ok_f ?_ (ok_ar (by omega) (ok_some ⟨⟨by omega, by omega⟩, by omega⟩))
        rw [gt_sub0 _ z0 (by omega)]
        exact hne
      rintro _ rfl
      exact ok_some rfl
    rintro _ rfl
    exact ok_f (by simp) (ok_ar (by omega) (ok_some ⟨⟨by omega, by omega⟩, by omega⟩))
  · refine ok_lp (fun y => 0 ≤ y ∧ y ≤ l.Paths.length) (fun y => ((l.Paths.length : Int) - y).toNat) ⟨by omega, by omega⟩ (by omega) ?_
    rintro y ⟨y0, y1⟩
    unfold P_clocks_Check_L26
    refine ok_ite (fun hlt => ?_) fun hge => ok_some ⟨(), rfl, trivial⟩
    obtain ⟨n1, n2, n3⟩ := hl.pth y ⟨y0, hlt⟩
    refine ok_ck ⟨y0, hlt⟩ (ok_lv (ok_bd (R := fun r => (gt l.Paths y).From ≠ (⟨#[]⟩ : ByteArray) → r = true) (ok_gd (fun hq => (cname_ok ((name_in h hi hf ho hl hp n1).resolve_left (of_decide_eq_true hq))).mono fun r hr _ => hr) fun hq hne => by simp [hne] at hq) ?_))
    intro r1 hr1
    have hx1 : (decide ((gt l.Paths y).From ≠ (⟨#[]⟩ : ByteArray)) && !r1) = false := by
      by_cases e : (gt l.Paths y).From = (⟨#[]⟩ : ByteArray)
      · simp [e]
      · simp [hr1 e]
    refine ok_lv ?_
    rw [hx1]
    refine ok_bd (R := fun r => (gt l.Paths y).To ≠ (⟨#[]⟩ : ByteArray) → r = true) (ok_gd (fun hq => (cname_ok ((name_out h hi hf ho hl hp n2).resolve_left (by simpa using hq))).mono fun r hr _ => hr) fun hq hne => by simp [hne] at hq) ?_
    intro r2 hr2
    have hx2 : (decide ((gt l.Paths y).To ≠ (⟨#[]⟩ : ByteArray)) && !r2) = false := by
      by_cases e : (gt l.Paths y).To = (⟨#[]⟩ : ByteArray)
      · simp [e]
      · simp [hr2 e]
    refine ok_lv ?_
    rw [hx2]
    refine ok_lv (ok_f (by simp) (ok_lv (ok_lv (ok_f (by simp only [Bool.or_eq_true, decide_eq_true_eq]; omega) (ok_ar (by omega) (ok_some ⟨⟨by omega, by omega⟩, by omega⟩))))))
  rintro r ⟨-, hr1, hr2⟩
  exact ok_f (by omega) (ok_some rfl)
theorem CheckFor_ok : Ok (P_clocks_CheckFor l n) (fun r => r = 0) := by
  have a := hl.inL
  have b := hl.outL
  have c := hl.pL
  have e1 := h.inL
  have e2 := h.outL
  have e3 := h.flopL
  unfold P_clocks_CheckFor
  refine ok_bd (CCheck_ok h hi hf ho hl hp) ?_
  rintro _ rfl
  refine ok_f (by simp) (ok_bd (R := fun r => r.length = n.Flops.length ∧ All (fun i x => x = (gt n.Flops i).Name) r) ?_ ?_)
  · refine ok_lp (fun s => (0 ≤ s.2 ∧ s.2 ≤ n.Flops.length) ∧ (s.1.length : Int) = s.2 ∧ All (fun i x => x = (gt n.Flops i).Name) s.1) (fun s => ((n.Flops.length : Int) - s.2).toNat) ⟨⟨by simp, by simp only; omega⟩, by simp, All.nil⟩ (by simp only; omega) ?_
    rintro ⟨fl, y⟩ ⟨⟨y0, y1⟩, y2, y3⟩
    simp only at y0 y1 y2 y3
    unfold P_clocks_CheckFor_L6
    dsimp only
    refine ok_ite (fun hlt => ?_) fun hge => ok_some ⟨by omega, y3⟩
    exact ok_ck ⟨y0, hlt⟩ (ok_lv (ok_lv (ok_ck (by simp only [apOk, List.length_append, List.length_singleton]; omega) (ok_ar (by omega) (ok_some ⟨⟨⟨by simp only; omega, by simp only; omega⟩, by simp only [List.length_append, List.length_singleton]; omega, y3.snoc (by rw [y2])⟩, by simp only; omega⟩)))))
  rintro fl ⟨f1, f2⟩
  refine ok_bs1 (R := fun _ => True) ?_ fun _ _ => ok_bs1 (R := fun _ => True) ?_ fun _ _ => ok_bs1 (R := fun _ => True) ?_ fun _ _ => ok_some rfl
  · refine ok_lp (fun y => 0 ≤ y ∧ y ≤ l.Inputs.length) (fun y => ((l.Inputs.length : Int) - y).toNat) ⟨by omega, by omega⟩ (by omega) ?_
    rintro y ⟨y0, y1⟩
    unfold P_clocks_CheckFor_L11
    refine ok_ite (fun hlt => ?_) fun hge => ok_some ⟨(), rfl, trivial⟩
    obtain ⟨⟨i, hi1, hi2⟩, -⟩ := hl.inp y ⟨y0, hlt⟩
    refine ok_ck ⟨y0, hlt⟩ (ok_lv (ok_bd (R := fun r => r = true) ((contains_ok _ _ (by omega)).mono fun r hr => hr ⟨i, ⟨hi1.1, by omega⟩, hi2⟩) ?_))
    rintro _ rfl
    exact ok_f (by simp) (ok_ar (by omega) (ok_some ⟨⟨by omega, by omega⟩, by omega⟩))
  · refine ok_lp (fun y => 0 ≤ y ∧ y ≤ l.Outputs.length) (fun y => ((l.Outputs.length : Int) - y).toNat) ⟨by omega, by omega⟩ (by omega) ?_
    rintro y ⟨y0, y1⟩
    unfold P_clocks_CheckFor_L17
    refine ok_ite (fun hlt => ?_) fun hge => ok_some ⟨(), rfl, trivial⟩
    obtain ⟨⟨i, hi1, hi2⟩, -⟩ := hl.out y ⟨y0, hlt⟩
    refine ok_ck ⟨y0, hlt⟩ (ok_lv (ok_bd (R := fun r => r = true) ((contains_ok _ _ (by omega)).mono fun r hr => hr ⟨i, ⟨hi1.1, by omega⟩, hi2⟩) ?_))
    rintro _ rfl
    exact ok_f (by simp) (ok_ar (by omega) (ok_some ⟨⟨by omega, by omega⟩, by omega⟩))
  · refine ok_lp (fun y => 0 ≤ y ∧ y ≤ l.Paths.length) (fun y => ((l.Paths.length : Int) - y).toNat) ⟨by omega, by omega⟩ (by omega) ?_
    rintro y ⟨y0, y1⟩
    unfold P_clocks_CheckFor_L23
    refine ok_ite (fun hlt => ?_) fun hge => ok_some ⟨(), rfl, trivial⟩
    obtain ⟨n1, n2, -⟩ := hl.pth y ⟨y0, hlt⟩
    have key : ∀ {ns : List ByteArray} {s : ByteArray}, NameW ns n.Flops s → s = (⟨#[]⟩ : ByteArray) ∨ (∃ a, inb a ns.length ∧ s = gt ns a) ∨ ∃ a, inb a fl.length ∧ s = gt fl a := by
      rintro ns s (q | ⟨a, ha, q⟩ | ⟨a, ha, q⟩)
      · exact .inl q
      · exact .inr (.inl ⟨a, ⟨ha.1, by omega⟩, q⟩)
      · have ha' : inb a fl.length := ⟨ha.1, by rw [f1]; exact ha.2⟩
        exact .inr (.inr ⟨a, ha', by rw [q, f2 a ha']⟩)
    refine ok_ck ⟨y0, hlt⟩ (ok_lv ?_)
    refine known_ok (by omega) (by omega) (key n1) (known_ok (by omega) (by omega) (key n2) ?_)
    exact ok_lv (ok_f (by simp) (ok_ar (by omega) (ok_some ⟨⟨by omega, by omega⟩, by omega⟩)))
end
end Go.Proofs.YtlolchgeedegdaaDoor.X
