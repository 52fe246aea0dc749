/- timing.Check takes the job of a stream. Plain. -/
import Derived.Test.YtlolchgeedegdaaDoorTC
namespace Go.Proofs.YtlolchgeedegdaaDoor.X
open Go Go.RowKit
set_option linter.unusedVariables false
set_option linter.unusedSimpArgs false
set_option linter.unusedSectionVars false
theorem sz_lit (a : Array UInt8) : (⟨a⟩ : ByteArray).size = a.size := rfl
theorem right_ok {w : T_tree_Window} {m : Int} (h : WinN m w) (hm : m ≤ 16777216) : Ok (P_delay_right w) (fun r => r = true) := by
  obtain ⟨h1, h2, h3⟩ := h
  unfold P_delay_right
  exact ok_lv (ok_lv (ok_some (by simp only [Bool.and_eq_true, decide_eq_true_eq]; omega)))
theorem all_ok {l : List T_tree_Window} {k m : Int} (hk : (l.length : Int) = k) (h : All (fun _ w => WinN m w) l) (hm : m ≤ 16777216) (hl : l.length ≤ 1000000) : Ok (P_delay_all l k) (fun r => r = 0) := by
  unfold P_delay_all
  refine ok_f (by omega) (ok_bs1 (R := fun _ => True) ?_ fun _ _ => ok_some rfl)
  refine ok_lp (fun y => 0 ≤ y ∧ y ≤ l.length) (fun y => ((l.length : Int) - y).toNat) ⟨by omega, by omega⟩ (by omega) ?_
  rintro y ⟨h0, h1⟩
  unfold P_delay_all_L4
  refine ok_ite (fun hlt => ?_) fun hge => ok_some ⟨(), rfl, trivial⟩
  refine ok_ck ⟨h0, hlt⟩ (ok_lv (ok_bd (right_ok (h y ⟨h0, hlt⟩) hm) ?_))
  rintro _ rfl
  exact ok_f (by simp) (ok_ar (by omega) (ok_some ⟨⟨by omega, by omega⟩, by omega⟩))
theorem inputs_ok (f : T_api_Flop) : Ok (P_delay_Inputs f) (fun r => r = if f.En = 1 then 1 else 2) := by
  unfold P_delay_Inputs
  exact ok_ite (fun h => ok_some (by rw [if_pos h])) fun h => ok_some (by rw [if_neg h])
theorem DCheck_ok {n : T_api_Netlist} {d : T_delay_Delays} {m : Int} (h : DelN n m d) (hm : m ≤ 16777216) (h1 : n.Gates.length ≤ 1000000) (h2 : n.Flops.length ≤ 1000000) (h3 : n.Outs.length ≤ 1000000) (h4 : ∀ i, inb i n.Gates.length → (gt n.Gates i).Ins.length ≤ 1000000) : Ok (P_delay_Check n d) (fun r => r = 0) := by
  have a := h.gL
  have b := h.dL
  have c := h.oL
  have e := h.cL
  have f := h.lL
  unfold P_delay_Check
  refine ok_lv (ok_f (by simp only [Bool.or_eq_true, decide_eq_true_eq]; omega) (ok_bs1 (R := fun _ => True) ?_ fun _ _ => ok_bs1 (R := fun _ => True) ?_ fun _ _ => ?_))
  · refine ok_lp (fun y => 0 ≤ y ∧ y ≤ n.Gates.length) (fun y => ((n.Gates.length : Int) - y).toNat) ⟨by omega, by omega⟩ (by omega) ?_
    rintro y ⟨y0, y1⟩
    unfold P_delay_Check_L4
    refine ok_ite (fun hlt => ?_) fun hge => ok_some ⟨(), rfl, trivial⟩
    obtain ⟨q1, q2⟩ := h.gW y ⟨y0, by omega⟩
    refine ok_ck ⟨y0, hlt⟩ (ok_lv (ok_ck ⟨y0, by omega⟩ (ok_lv (ok_bd (all_ok (by omega) q2 hm (by rw [q1]; exact h4 y ⟨y0, hlt⟩)) ?_))))
    rintro _ rfl
    exact ok_f (by simp) (ok_ar (by omega) (ok_some ⟨⟨by omega, by omega⟩, by omega⟩))
  · refine ok_lp (fun y => 0 ≤ y ∧ y ≤ n.Flops.length) (fun y => ((n.Flops.length : Int) - y).toNat) ⟨by omega, by omega⟩ (by omega) ?_
    rintro y ⟨y0, y1⟩
    unfold P_delay_Check_L11
    refine ok_ite (fun hlt => ?_) fun hge => ok_some ⟨(), rfl, trivial⟩
    obtain ⟨q1, q2⟩ := h.dW y ⟨y0, by omega⟩
    refine ok_ck ⟨y0, hlt⟩ (ok_lv (ok_ck ⟨y0, by omega⟩ (ok_lv (ok_bd (inputs_ok _) ?_))))
    rintro _ rfl
    refine ok_bd (all_ok q1 q2 hm (by have := q1; split at this <;> omega)) ?_
    rintro _ rfl
    exact ok_f (by simp) (ok_ar (by omega) (ok_some ⟨⟨by omega, by omega⟩, by omega⟩))
  · refine ok_bd (all_ok (by omega) h.oW hm (by omega)) ?_
    rintro _ rfl
    refine ok_f (by simp) (ok_bd (all_ok (by omega) h.cW hm (by omega)) ?_)
    rintro _ rfl
    refine ok_f (by simp) (ok_bd (all_ok (by omega) h.lW hm (by omega)) ?_)
    rintro _ rfl
    exact ok_some rfl
theorem cname_dec : ([105, 111, 102].all fun c => (List.range 4).all fun i => decide (P_clocks_name (nm c (i : Int)) = some true)) = true := by decide +kernel
theorem cname_ok {c : UInt8} (hc : c = 105 ∨ c = 111 ∨ c = 102) {i : Int} (h : 0 ≤ i ∧ i < 3) : Ok (P_clocks_name (nm c i)) (fun r => r = true) := by
  obtain ⟨k, rfl⟩ := Int.eq_ofNat_of_zero_le h.1
  have h1 : c ∈ [105, 111, 102] := by rcases hc with rfl | rfl | rfl <;> simp
  have := List.all_eq_true.1 (List.all_eq_true.1 cname_dec c h1) k (List.mem_range.2 (by omega))
  exact ⟨true, by simpa using this, rfl⟩
theorem cont_dec : ([105, 111, 102].all fun c => [105, 111, 102].all fun d => (List.range 4).all fun a => (List.range 4).all fun i => decide (P_slices_Contains_string_string (nmL c a) (nm d (i : Int)) = some (decide (c = d ∧ i < a)))) = true := by decide +kernel
theorem cont_ok {c d : UInt8} (hc : c = 105 ∨ c = 111 ∨ c = 102) (hd : d = 105 ∨ d = 111 ∨ d = 102) {a : Nat} (ha : a ≤ 3) {i : Int} (h : 0 ≤ i ∧ i < 3) : Ok (P_slices_Contains_string_string (nmL c a) (nm d i)) (fun r => r = decide (c = d ∧ i < a)) := by
  obtain ⟨k, rfl⟩ := Int.eq_ofNat_of_zero_le h.1
  have h1 : c ∈ [105, 111, 102] := by rcases hc with rfl | rfl | rfl <;> simp
  have h2 : d ∈ [105, 111, 102] := by rcases hd with rfl | rfl | rfl <;> simp
  have := List.all_eq_true.1 (List.all_eq_true.1 (List.all_eq_true.1 (List.all_eq_true.1 cont_dec c h1) d h2) a (List.mem_range.2 (by omega))) k (List.mem_range.2 (by omega))
  refine ⟨_, by simpa using this, ?_⟩
  simp
theorem nm_nil : ([105, 111, 102].all fun c => (List.range 4).all fun i => decide (nm c (i : Int) ≠ (⟨#[]⟩ : ByteArray))) = true := by decide +kernel
theorem nm_nonil {c : UInt8} (hc : c = 105 ∨ c = 111 ∨ c = 102) {i : Int} (h : 0 ≤ i ∧ i < 3) : nm c i ≠ (⟨#[]⟩ : ByteArray) := by
  obtain ⟨k, rfl⟩ := Int.eq_ofNat_of_zero_le h.1
  have h1 : c ∈ [105, 111, 102] := by rcases hc with rfl | rfl | rfl <;> simp
  have := List.all_eq_true.1 (List.all_eq_true.1 nm_nil c h1) k (List.mem_range.2 (by omega))
  simpa using this
theorem digits_dec : ((List.range 2001).all fun n => decide ((Go.Lib.decDigits n).length ≤ 4)) = true := by decide +kernel
theorem write1_ok {n : Int} (h0 : 0 ≤ n) (h1 : n ≤ 2000) : Ok (P_clocks_write_1 n) (fun r => r = itoa n ∧ r.size ≤ 4) := by
  have h2 := List.all_eq_true.1 digits_dec n.toNat (List.mem_range.2 (by omega))
  simp only [decide_eq_true_eq] at h2
  unfold P_clocks_write_1
  refine ok_bd (R := fun r => r = itoa n) ?_ ?_
  · unfold P_strconv_Itoa
    exact ok_ck ⟨h0, by omega⟩ (ok_some rfl)
  rintro _ rfl
  exact ok_some ⟨rfl, by simpa [itoa, ByteArray.size] using h2⟩
theorem or3 {c : UInt8} (h : c = 105 ∨ c = 111) : c = 105 ∨ c = 111 ∨ c = 102 := h.elim .inl (fun e => .inr (.inl e))
theorem NameF.size {c : UInt8} {m flops : Int} {s : ByteArray} (h : NameF c m flops s) (hm : m ≤ 3) (hf : flops ≤ 3) : s.size ≤ 3 := by
  rcases h with rfl | ⟨a, ha, rfl⟩ | ⟨a, ha, rfl⟩
  · exact Nat.zero_le _
  · exact nm_size c ha.1 (by omega)
  · exact nm_size _ ha.1 (by omega)
theorem write2_ok {s : ByteArray} (h : s.size ≤ 3) : Ok (P_clocks_write_2 s) (fun r => r.size ≤ 4) := by
  unfold P_clocks_write_2
  refine ok_ite (fun _ => ok_some (by decide)) fun _ => ok_ck (by simp only [ByteArray.size_append, sz_lit, List.size_toArray, List.length_cons, List.length_nil]; omega) (ok_some (by simp only [ByteArray.size_append, sz_lit, List.size_toArray, List.length_cons, List.length_nil]; omega))
section
variable {ins flops outs : Int} {p : Bool} {l : T_clocks_Limits} (h : LimN ins flops outs p l) (hi : 1 ≤ ins ∧ ins ≤ 3) (hf : 0 ≤ flops ∧ flops ≤ 3) (ho : 1 ≤ outs ∧ outs ≤ 3)
include h hi hf ho
theorem write_ok : Ok (P_clocks_write l) (fun r => 0 < r.size ∧ r.size ≤ 1000) := by
  have a := h.inL
  have b := h.outL
  have c := h.pL
  unfold P_clocks_write
  refine ok_bd (write1_ok (by have := h.per; omega) h.per.2) ?_
  rintro s0 ⟨-, hs0⟩
  refine ok_ck (by simp only [ByteArray.size_append, sz_lit, List.size_toArray, List.length_cons, List.length_nil]; omega) (ok_ck (by simp only [ByteArray.size_append, sz_lit, List.size_toArray, List.length_cons, List.length_nil]; omega) (ok_ck (by simp only [ByteArray.size_append, sz_lit, List.size_toArray, List.length_cons, List.length_nil]; omega) (ok_lv ?_)))
  refine ok_bd (R := fun r => 0 < r.size ∧ r.size ≤ 200) ?_ ?_
  · refine ok_lp (fun s => (0 ≤ s.2 ∧ s.2 ≤ l.Inputs.length) ∧ 0 < s.1.size ∧ (s.1.size : Int) ≤ 20 + 60 * s.2) (fun s => ((l.Inputs.length : Int) - s.2).toNat) ⟨⟨by simp, by simp only; omega⟩, (by simp only [ByteArray.size_append, sz_lit, List.size_toArray, List.length_cons, List.length_nil]; omega), (by simp only [ByteArray.size_append, sz_lit, List.size_toArray, List.length_cons, List.length_nil]; omega)⟩ (by simp only; omega) ?_
    rintro ⟨bb, y⟩ ⟨⟨y0, y1⟩, y2, y3⟩
    simp only at y0 y1 y2 y3
    unfold P_clocks_write_L5
    dsimp only
    refine ok_ite (fun hlt => ?_) fun hge => ok_some ⟨by omega, by omega⟩
    obtain ⟨⟨i, hi1, hi2⟩, hw⟩ := h.inp y ⟨y0, hlt⟩
    have hs := nm_size 105 hi1.1 (by omega : i < 100)
    rw [← hi2] at hs
    have w1 := hw.lo
    have w2 := hw.le
    have w3 := hw.hi
    refine ok_ck ⟨y0, hlt⟩ (ok_lv (ok_ck (by simp only [ByteArray.size_append, sz_lit, List.size_toArray, List.length_cons, List.length_nil]; omega) (ok_ck (by simp only [ByteArray.size_append, sz_lit, List.size_toArray, List.length_cons, List.length_nil]; omega) (ok_bd (write1_ok (by omega) (by omega)) ?_))))
    rintro s1 ⟨-, hs1⟩
    refine ok_ck (by simp only [ByteArray.size_append, sz_lit, List.size_toArray, List.length_cons, List.length_nil]; omega) (ok_ck (by simp only [ByteArray.size_append, sz_lit, List.size_toArray, List.length_cons, List.length_nil]; omega) (ok_bd (write1_ok (by omega) (by omega)) ?_))
    rintro s2 ⟨-, hs2⟩
    exact ok_ck (by simp only [ByteArray.size_append, sz_lit, List.size_toArray, List.length_cons, List.length_nil]; omega) (ok_ck (by simp only [ByteArray.size_append, sz_lit, List.size_toArray, List.length_cons, List.length_nil]; omega) (ok_ck (by simp only [ByteArray.size_append, sz_lit, List.size_toArray, List.length_cons, List.length_nil]; omega) (ok_lv (ok_ar (by omega) (ok_some ⟨⟨⟨by simp only; omega, by simp only; omega⟩, (by simp only [ByteArray.size_append, sz_lit, List.size_toArray, List.length_cons, List.length_nil]; omega), (by simp only [ByteArray.size_append, sz_lit, List.size_toArray, List.length_cons, List.length_nil]; omega)⟩, by simp only; omega⟩)))))
  rintro b1 ⟨hb1, hb2⟩
  refine ok_bd (R := fun r => 0 < r.size ∧ r.size ≤ 400) ?_ ?_
  · refine ok_lp (fun s => (0 ≤ s.2 ∧ s.2 ≤ l.Outputs.length) ∧ 0 < s.1.size ∧ (s.1.size : Int) ≤ 200 + 60 * s.2) (fun s => ((l.Outputs.length : Int) - s.2).toNat) ⟨⟨by simp, by simp only; omega⟩, hb1, by simp only; omega⟩ (by simp only; omega) ?_
    rintro ⟨bb, y⟩ ⟨⟨y0, y1⟩, y2, y3⟩
    simp only at y0 y1 y2 y3
    unfold P_clocks_write_L10
    dsimp only
    refine ok_ite (fun hlt => ?_) fun hge => ok_some ⟨by omega, by omega⟩
    obtain ⟨⟨i, hi1, hi2⟩, hw⟩ := h.out y ⟨y0, hlt⟩
    have hs := nm_size 111 hi1.1 (by omega : i < 100)
    rw [← hi2] at hs
    refine ok_ck ⟨y0, hlt⟩ (ok_lv (ok_ck (by simp only [ByteArray.size_append, sz_lit, List.size_toArray, List.length_cons, List.length_nil]; omega) (ok_ck (by simp only [ByteArray.size_append, sz_lit, List.size_toArray, List.length_cons, List.length_nil]; omega) (ok_bd (write1_ok (by omega) (by omega)) ?_))))
    rintro s1 ⟨-, hs1⟩
    exact ok_ck (by simp only [ByteArray.size_append, sz_lit, List.size_toArray, List.length_cons, List.length_nil]; omega) (ok_ck (by simp only [ByteArray.size_append, sz_lit, List.size_toArray, List.length_cons, List.length_nil]; omega) (ok_ck (by simp only [ByteArray.size_append, sz_lit, List.size_toArray, List.length_cons, List.length_nil]; omega) (ok_lv (ok_ar (by omega) (ok_some ⟨⟨⟨by simp only; omega, by simp only; omega⟩, (by simp only [ByteArray.size_append, sz_lit, List.size_toArray, List.length_cons, List.length_nil]; omega), (by simp only [ByteArray.size_append, sz_lit, List.size_toArray, List.length_cons, List.length_nil]; omega)⟩, by simp only; omega⟩)))))
  rintro b2 ⟨hb3, hb4⟩
  refine ok_bd (R := fun r => 0 < r.size ∧ r.size ≤ 600) ?_ ?_
  · refine ok_lp (fun s => (0 ≤ s.2 ∧ s.2 ≤ l.Paths.length) ∧ 0 < s.1.size ∧ (s.1.size : Int) ≤ 400 + 60 * s.2) (fun s => ((l.Paths.length : Int) - s.2).toNat) ⟨⟨by simp, by simp only; omega⟩, hb3, by simp only; omega⟩ (by simp only; omega) ?_
    rintro ⟨bb, y⟩ ⟨⟨y0, y1⟩, y2, y3⟩
    simp only at y0 y1 y2 y3
    unfold P_clocks_write_L16
    dsimp only
    refine ok_ite (fun hlt => ?_) fun hge => ok_some ⟨by omega, by omega⟩
    obtain ⟨n1, n2, n3⟩ := h.pth y ⟨y0, hlt⟩
    have s1 := n1.size (by omega) (by omega)
    have s2 := n2.size (by omega) (by omega)
    refine ok_ck ⟨y0, hlt⟩ (ok_lv (ok_bd (R := fun r => 0 < r.size ∧ r.size ≤ bb.size + 60) ?_ ?_))
    · refine ok_ite (fun _ => ok_bd (write2_ok s1) ?_) fun hc => ok_bd (write1_ok (by omega) (by omega)) ?_
      · intro t1 ht1
        refine ok_ck (by simp only [ByteArray.size_append, sz_lit, List.size_toArray, List.length_cons, List.length_nil]; omega) (ok_ck (by simp only [ByteArray.size_append, sz_lit, List.size_toArray, List.length_cons, List.length_nil]; omega) (ok_bd (write2_ok s2) ?_))
        intro t2 ht2
        exact ok_ck (by simp only [ByteArray.size_append, sz_lit, List.size_toArray, List.length_cons, List.length_nil]; omega) (ok_ck (by simp only [ByteArray.size_append, sz_lit, List.size_toArray, List.length_cons, List.length_nil]; omega) (ok_ck (by simp only [ByteArray.size_append, sz_lit, List.size_toArray, List.length_cons, List.length_nil]; omega) (ok_lv (ok_some ⟨(by simp only [ByteArray.size_append, sz_lit, List.size_toArray, List.length_cons, List.length_nil]; omega), (by simp only [ByteArray.size_append, sz_lit, List.size_toArray, List.length_cons, List.length_nil]; omega)⟩))))
      · rintro t0 ⟨-, ht0⟩
        refine ok_ck (by simp only [ByteArray.size_append, sz_lit, List.size_toArray, List.length_cons, List.length_nil]; omega) (ok_ck (by simp only [ByteArray.size_append, sz_lit, List.size_toArray, List.length_cons, List.length_nil]; omega) (ok_bd (write2_ok s1) ?_))
        intro t1 ht1
        refine ok_ck (by simp only [ByteArray.size_append, sz_lit, List.size_toArray, List.length_cons, List.length_nil]; omega) (ok_ck (by simp only [ByteArray.size_append, sz_lit, List.size_toArray, List.length_cons, List.length_nil]; omega) (ok_bd (write2_ok s2) ?_))
        intro t2 ht2
        exact ok_ck (by simp only [ByteArray.size_append, sz_lit, List.size_toArray, List.length_cons, List.length_nil]; omega) (ok_ck (by simp only [ByteArray.size_append, sz_lit, List.size_toArray, List.length_cons, List.length_nil]; omega) (ok_ck (by simp only [ByteArray.size_append, sz_lit, List.size_toArray, List.length_cons, List.length_nil]; omega) (ok_lv (ok_some ⟨(by simp only [ByteArray.size_append, sz_lit, List.size_toArray, List.length_cons, List.length_nil]; omega), (by simp only [ByteArray.size_append, sz_lit, List.size_toArray, List.length_cons, List.length_nil]; omega)⟩))))
    rintro b3 ⟨hb5, hb6⟩
    exact ok_ar (by omega) (ok_some ⟨⟨⟨by simp only; omega, by simp only; omega⟩, hb5, by simp only; omega⟩, by simp only; omega⟩)
  rintro b3 ⟨hb5, hb6⟩
  exact ok_ck hb5 (ok_some ⟨hb5, by omega⟩)
theorem NameF.gd_ok {c : UInt8} (hc : c = 105 ∨ c = 111) {m : Int} (hm : m ≤ 3) {s : ByteArray} (hs : NameF c m flops s) (hne : s ≠ (⟨#[]⟩ : ByteArray)) : Ok (P_clocks_name s) (fun r => r = true) := by
  rcases hs with rfl | ⟨a, ha, rfl⟩ | ⟨a, ha, rfl⟩
  · exact absurd rfl hne
  · exact cname_ok (or3 hc) (by omega)
  · exact cname_ok (.inr (.inr rfl)) (by omega)
theorem CCheck_ok : Ok (P_clocks_Check l) (fun r => r = 0) := by
  have a := h.inL
  have b := h.outL
  have c := h.pL
  have d := h.per
  unfold P_clocks_Check
  refine ok_lv (ok_f (by simp only [Bool.or_eq_true, decide_eq_true_eq]; omega) (ok_lv (ok_lv (ok_f (by simp only [Bool.or_eq_true, decide_eq_true_eq]; omega) ?_))))
  refine ok_bs1 (R := fun _ => True) ?_ fun _ _ => ok_bs1 (R := fun _ => True) ?_ fun _ _ => ok_bs1 (R := fun _ => True) ?_ fun _ _ => ok_bd (write_ok h hi hf ho) ?_
  · refine ok_lp (fun y => 0 ≤ y ∧ y ≤ l.Inputs.length) (fun y => ((l.Inputs.length : Int) - y).toNat) ⟨by omega, by omega⟩ (by omega) ?_
    rintro y ⟨y0, y1⟩
    unfold P_clocks_Check_L6
    refine ok_ite (fun hlt => ?_) fun hge => ok_some ⟨(), rfl, trivial⟩
    obtain ⟨⟨i, hi1, hi2⟩, hw⟩ := h.inp y ⟨y0, hlt⟩
    have w1 := hw.lo
    have w2 := hw.le
    have w3 := hw.hi
    refine ok_ck ⟨y0, hlt⟩ (ok_lv (ok_bd (R := fun r => r = true) (by rw [hi2]; exact cname_ok (.inl rfl) (by omega)) ?_))
    rintro _ rfl
    refine ok_f (by simp) (ok_lv (ok_lv (ok_f (by simp only [Bool.or_eq_true, decide_eq_true_eq]; omega) (ok_ck ⟨by omega, y0, by omega⟩ (ok_lv (ok_bd (R := fun r => r = false) ?_ ?_))))))
    · unfold P_slices_ContainsFunc_clocks_Input_clocks_Input
      refine ok_bd (R := fun r => r = -1) ?_ ?_
      · unfold P_slices_IndexFunc_clocks_Input_clocks_Input
        have hsl := sub_len l.Inputs (b := y) y0 (by omega)
        refine ok_bs1 (R := fun _ => True) ?_ fun _ _ => ok_some rfl
        refine ok_lp (fun z => 0 ≤ z ∧ z ≤ y) (fun z => (y - z).toNat) ⟨by omega, by omega⟩ (by omega) ?_
        rintro z ⟨z0, z1⟩
        unfold P_slices_IndexFunc_clocks_Input_clocks_Input_L2
        refine ok_ite (fun hz => ?_) fun hge => ok_some ⟨(), rfl, trivial⟩
        have hne := h.inD y z z0 (by omega) hlt
        refine ok_ck ⟨z0, by omega⟩ (ok_lv (ok_bd (R := fun _ => True) ⟨(), by unfold P_clocks_Check_1; rfl, trivial⟩ fun _ _ => ?_))
        refine ok_f ?_ (ok_ar (by omega) (ok_some ⟨⟨by omega, by omega⟩, by omega⟩))
        rw [gt_sub0 _ z0 (by omega)]
        exact hne
      rintro _ rfl
      exact ok_some rfl
    rintro _ rfl
    exact ok_f (by simp) (ok_ar (by omega) (ok_some ⟨⟨by omega, by omega⟩, by omega⟩))
  · refine ok_lp (fun y => 0 ≤ y ∧ y ≤ l.Outputs.length) (fun y => ((l.Outputs.length : Int) - y).toNat) ⟨by omega, by omega⟩ (by omega) ?_
    rintro y ⟨y0, y1⟩
    unfold P_clocks_Check_L16
    refine ok_ite (fun hlt => ?_) fun hge => ok_some ⟨(), rfl, trivial⟩
    obtain ⟨⟨i, hi1, hi2⟩, hw⟩ := h.out y ⟨y0, hlt⟩
    refine ok_ck ⟨y0, hlt⟩ (ok_lv (ok_bd (R := fun r => r = true) (by rw [hi2]; exact cname_ok (.inr (.inl rfl)) (by omega)) ?_))
    rintro _ rfl
    refine ok_f (by simp) (ok_lv (ok_f (by simp only [Bool.or_eq_true, decide_eq_true_eq]; omega) (ok_ck ⟨by omega, y0, by omega⟩ (ok_lv (ok_bd (R := fun r => r = false) ?_ ?_)))))
    · unfold P_slices_ContainsFunc_clocks_Output_clocks_Output
      refine ok_bd (R := fun r => r = -1) ?_ ?_
      · unfold P_slices_IndexFunc_clocks_Output_clocks_Output
        have hsl := sub_len l.Outputs (b := y) y0 (by omega)
        refine ok_bs1 (R := fun _ => True) ?_ fun _ _ => ok_some rfl
        refine ok_lp (fun z => 0 ≤ z ∧ z ≤ y) (fun z => (y - z).toNat) ⟨by omega, by omega⟩ (by omega) ?_
        rintro z ⟨z0, z1⟩
        unfold P_slices_IndexFunc_clocks_Output_clocks_Output_L2
        refine ok_ite (fun hz => ?_) fun hge => ok_some ⟨(), rfl, trivial⟩
        have hne := h.outD y z z0 (by omega) hlt
        refine ok_ck ⟨z0, by omega⟩ (ok_lv (ok_bd (R := fun _ => True) ⟨(), by unfold P_clocks_Check_2; rfl, trivial⟩ fun _ _ => ?_))
        refine ok_f ?_ (ok_ar (by omega) (ok_some ⟨⟨by omega, by omega⟩, by omega⟩))
        rw [gt_sub0 _ z0 (by omega)]
        exact hne
      rintro _ rfl
      exact ok_some rfl
    rintro _ rfl
    exact ok_f (by simp) (ok_ar (by omega) (ok_some ⟨⟨by omega, by omega⟩, by omega⟩))
  · refine ok_lp (fun y => 0 ≤ y ∧ y ≤ l.Paths.length) (fun y => ((l.Paths.length : Int) - y).toNat) ⟨by omega, by omega⟩ (by omega) ?_
    rintro y ⟨y0, y1⟩
    unfold P_clocks_Check_L26
    refine ok_ite (fun hlt => ?_) fun hge => ok_some ⟨(), rfl, trivial⟩
    obtain ⟨n1, n2, n3⟩ := h.pth y ⟨y0, hlt⟩
    refine ok_ck ⟨y0, hlt⟩ (ok_lv (ok_bd (R := fun r => (gt l.Paths y).From ≠ (⟨#[]⟩ : ByteArray) → r = true) (ok_gd (fun hq => (NameF.gd_ok h hi hf ho (.inl rfl) hi.2 n1 (of_decide_eq_true hq)).mono fun r hr _ => hr) fun hq hne => by simp [hne] at hq) ?_))
    intro r1 hr1
    have hx1 : (decide ((gt l.Paths y).From ≠ (⟨#[]⟩ : ByteArray)) && !r1) = false := by
      by_cases e : (gt l.Paths y).From = (⟨#[]⟩ : ByteArray)
      · simp [e]
      · simp [hr1 e]
    refine ok_lv ?_
    rw [hx1]
    refine ok_bd (R := fun r => (gt l.Paths y).To ≠ (⟨#[]⟩ : ByteArray) → r = true) (ok_gd (fun hq => (NameF.gd_ok h hi hf ho (.inr rfl) ho.2 n2 (by simpa using hq)).mono fun r hr _ => hr) fun hq hne => by simp [hne] at hq) ?_
    intro r2 hr2
    have hx2 : (decide ((gt l.Paths y).To ≠ (⟨#[]⟩ : ByteArray)) && !r2) = false := by
      by_cases e : (gt l.Paths y).To = (⟨#[]⟩ : ByteArray)
      · simp [e]
      · simp [hr2 e]
    refine ok_lv ?_
    rw [hx2]
    refine ok_lv (ok_f (by simp) (ok_lv (ok_lv (ok_f (by simp only [Bool.or_eq_true, decide_eq_true_eq]; omega) (ok_ar (by omega) (ok_some ⟨⟨by omega, by omega⟩, by omega⟩))))))
  rintro r ⟨hr1, hr2⟩
  exact ok_f (by omega) (ok_some rfl)
variable {n : T_api_Netlist} {li : List T_api_Cell} {gates : Int} (hn : PlacedN n li ins flops gates outs)
include hn
theorem CheckFor_ok : Ok (P_clocks_CheckFor l n) (fun r => r = 0) := by
  have a := h.inL
  have b := h.outL
  have c := h.pL
  have hin := nmL_eq hn.inN (n := ins.toNat) (by have := hn.inL; omega)
  have hout := nmL_eq hn.outN (n := outs.toNat) (by have := hn.outL; omega)
  have hfl := hn.flopL
  unfold P_clocks_CheckFor
  refine ok_bd (CCheck_ok h hi hf ho) ?_
  rintro _ rfl
  refine ok_f (by simp) (ok_bd (R := fun r => r = nmL 102 flops.toNat) ?_ ?_)
  · refine ok_lp (fun s => ∃ y : Nat, s.2 = y ∧ (y : Int) ≤ flops ∧ s.1 = nmL 102 y) (fun s => (flops - s.2).toNat) ⟨0, rfl, by omega, by simp [nmL]⟩ (by simp only; omega) ?_
    rintro ⟨_, _⟩ ⟨y, rfl, y1, rfl⟩
    unfold P_clocks_CheckFor_L6
    dsimp only
    refine ok_ite (fun hlt => ?_) fun hge => ok_some (by rw [show flops.toNat = y by omega])
    have q := (hn.flop y ⟨by omega, hlt⟩).1
    refine ok_ck ⟨by omega, hlt⟩ (ok_lv (ok_lv (ok_ck ?_ (ok_ar (by omega) (ok_some ⟨⟨y + 1, by simp only; omega, by omega, ?_⟩, by simp only; omega⟩)))))
    · simp only [apOk, List.length_append, List.length_singleton, nmL_len]; omega
    · simp only; rw [q, nmL_succ]
  rintro _ rfl
  refine ok_bs1 (R := fun _ => True) ?_ fun _ _ => ok_bs1 (R := fun _ => True) ?_ fun _ _ => ok_bs1 (R := fun _ => True) ?_ fun _ _ => ok_some rfl
  · refine ok_lp (fun y => 0 ≤ y ∧ y ≤ l.Inputs.length) (fun y => ((l.Inputs.length : Int) - y).toNat) ⟨by omega, by omega⟩ (by omega) ?_
    rintro y ⟨y0, y1⟩
    unfold P_clocks_CheckFor_L11
    refine ok_ite (fun hlt => ?_) fun hge => ok_some ⟨(), rfl, trivial⟩
    obtain ⟨⟨i, hi1, hi2⟩, -⟩ := h.inp y ⟨y0, hlt⟩
    refine ok_ck ⟨y0, hlt⟩ (ok_lv (ok_bd (R := fun r => r = true) (by rw [hi2, hin]; exact (cont_ok (.inl rfl) (.inl rfl) (by omega) (by omega)).mono fun r hr => by rw [hr]; simp; omega) ?_))
    rintro _ rfl
    exact ok_f (by simp) (ok_ar (by omega) (ok_some ⟨⟨by omega, by omega⟩, by omega⟩))
  · refine ok_lp (fun y => 0 ≤ y ∧ y ≤ l.Outputs.length) (fun y => ((l.Outputs.length : Int) - y).toNat) ⟨by omega, by omega⟩ (by omega) ?_
    rintro y ⟨y0, y1⟩
    unfold P_clocks_CheckFor_L17
    refine ok_ite (fun hlt => ?_) fun hge => ok_some ⟨(), rfl, trivial⟩
    obtain ⟨⟨i, hi1, hi2⟩, -⟩ := h.out y ⟨y0, hlt⟩
    refine ok_ck ⟨y0, hlt⟩ (ok_lv (ok_bd (R := fun r => r = true) (by rw [hi2, hout]; exact (cont_ok (.inr (.inl rfl)) (.inr (.inl rfl)) (by omega) (by omega)).mono fun r hr => by rw [hr]; simp; omega) ?_))
    rintro _ rfl
    exact ok_f (by simp) (ok_ar (by omega) (ok_some ⟨⟨by omega, by omega⟩, by omega⟩))
  · refine ok_lp (fun y => 0 ≤ y ∧ y ≤ l.Paths.length) (fun y => ((l.Paths.length : Int) - y).toNat) ⟨by omega, by omega⟩ (by omega) ?_
    rintro y ⟨y0, y1⟩
    unfold P_clocks_CheckFor_L23
    refine ok_ite (fun hlt => ?_) fun hge => ok_some ⟨(), rfl, trivial⟩
    obtain ⟨n1, n2, n3⟩ := h.pth y ⟨y0, hlt⟩
    have key : ∀ {cc : UInt8} {m : Int} (hc : cc = 105 ∨ cc = 111) (hm : 1 ≤ m ∧ m ≤ 3) {s : ByteArray} (hs : NameF cc m flops s) {k : Bool → Option (Int ⊕ (Unit ⊕ Int))} {Q}, Ok (k true) Q →
        Ok (bd (gd (!(decide (s = (⟨#[]⟩ : ByteArray)))) (P_slices_Contains_string_string (nmL cc m.toNat) s)) fun r25_8 =>
          lv ((decide (s = (⟨#[]⟩ : ByteArray))) || r25_8) fun x79 =>
          bd (gd (!x79) (P_slices_Contains_string_string (nmL 102 flops.toNat) s)) fun r25_14 =>
          lv (x79 || r25_14) k) Q := by
      intro cc m hc hm s hs k Q hk
      rcases hs with rfl | ⟨a, ha, rfl⟩ | ⟨a, ha, rfl⟩
      · simpa [bd, gd, lv] using hk
      · have e := nm_nonil (c := cc) (i := a) (or3 hc) (by omega)
        refine ok_bd (R := fun r => r = true) (ok_gd (fun _ => (cont_ok (or3 hc) (or3 hc) (by omega) (by omega)).mono fun r hr => by rw [hr]; simp; omega) fun hq => by simp [e] at hq) ?_
        rintro _ rfl
        simp only [Bool.or_true]
        simpa [bd, gd, lv] using hk
      · have e := nm_nonil (c := 102) (i := a) (.inr (.inr rfl)) (by omega)
        refine ok_bd (R := fun r => r = false) (ok_gd (fun _ => (cont_ok (or3 hc) (.inr (.inr rfl)) (by omega) (by omega)).mono fun r hr => by rw [hr]; rcases hc with rfl | rfl <;> simp) fun hq => by simp [e] at hq) ?_
        rintro _ rfl
        refine ok_lv ?_
        rw [show (decide (nm 102 a = (⟨#[]⟩ : ByteArray)) || false) = false by simp [e]]
        refine ok_bd (R := fun r => r = true) (ok_gd (fun _ => (cont_ok (.inr (.inr rfl)) (.inr (.inr rfl)) (by omega) (by omega)).mono fun r hr => by rw [hr]; simp; omega) fun hq => by simp at hq) ?_
        rintro _ rfl
        exact hk
    refine ok_ck ⟨y0, hlt⟩ (ok_lv ?_)
    rw [hin, hout]
    refine key (.inl rfl) hi n1 (key (.inr rfl) ho n2 ?_)
    exact ok_lv (ok_f (by simp) (ok_ar (by omega) (ok_some ⟨⟨by omega, by omega⟩, by omega⟩)))
end
theorem TCheck_ok {ins flops gates outs m : Int} {p : Bool} {j : T_timing_Job} (h : JobN ins flops gates outs p m j) : Ok (P_timing_Check j) (fun r => r = 0) := by
  have hi := h.hi
  have hf := h.hf
  have hg := h.hg
  have ho := h.ho
  have hm := h.hm
  have a := h.hn.gateL
  have b := h.hn.flopL
  have c := h.hn.outsL
  unfold P_timing_Check
  refine ok_bd (NCheck_ok h.hl h.hn (by omega) (by omega) (by omega) (by omega)) ?_
  rintro _ rfl
  refine ok_f (by simp) (ok_bs1 (R := fun _ => True) ?_ fun _ _ => ?_)
  · refine ok_lp (fun y => 0 ≤ y ∧ y ≤ flops) (fun y => (flops - y).toNat) ⟨by omega, by omega⟩ (by omega) ?_
    rintro y ⟨y0, y1⟩
    unfold P_timing_Check_L5
    refine ok_ite (fun hlt => ?_) fun hge => ok_some ⟨(), rfl, trivial⟩
    obtain ⟨-, -, q⟩ := h.hn.flop y ⟨y0, hlt⟩
    exact ok_ck ⟨y0, hlt⟩ (ok_lv (ok_f (by omega) (ok_ar (by omega) (ok_some ⟨⟨by omega, by omega⟩, by omega⟩))))
  · refine ok_bd (DCheck_ok h.hd (by omega) (by simp only; omega) (by simp only; omega) (by simp only; omega) fun i hi => ?_) ?_
    · simp only at hi ⊢
      have := h.hn.insL h.hl (i := i) ⟨hi.1, by have := hi.2; omega⟩
      omega
    rintro _ rfl
    refine ok_f (by simp) (ok_bd (CheckFor_ok h.hL hi hf ho h.hn) ?_)
    rintro _ rfl
    exact ok_some rfl
end Go.Proofs.YtlolchgeedegdaaDoor.X
