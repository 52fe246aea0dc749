/- ClocksBack: what is read is what was written. Plain. -/
import Derived.Test.YtlolchgeedegdaaDoorKF
namespace Go.Proofs.YtlolchgeedegdaaDoor.X
open Go Go.RowKit
set_option linter.unusedVariables false
set_option linter.unusedSimpArgs false
set_option linter.unusedSectionVars false
theorem mem_gt {α : Type} [Inhabited α] {xs : List α} {x : α} (h : x ∈ xs) : ∃ i, inb i xs.length ∧ gt xs i = x := by
  obtain ⟨k, hk, e⟩ := List.getElem_of_mem h
  exact ⟨k, ⟨by omega, by omega⟩, by simp [gt, List.getD_eq_getElem?_getD, hk, e]⟩
def addAll (ks : List Ln) (s : St4) : St4 := ks.foldl (fun s k => k.add s) s
theorem addAll_app (a b : List Ln) (s : St4) : addAll (a ++ b) s = addAll b (addAll a s) := List.foldl_append
theorem addAll_inp : ∀ (xs : List T_clocks_Input) (s : St4), addAll (xs.map Ln.inp) s = (s.1, s.2.1 ++ xs, s.2.2.1, s.2.2.2)
  | [], s => by simp [addAll]
  | x :: xs, s => by
    have := addAll_inp xs (Ln.add (.inp x) s)
    simp only [addAll, List.map_cons, List.foldl_cons] at *
    rw [this]; simp [Ln.add]
theorem addAll_out : ∀ (xs : List T_clocks_Output) (s : St4), addAll (xs.map Ln.out) s = (s.1, s.2.1, s.2.2.1 ++ xs, s.2.2.2)
  | [], s => by simp [addAll]
  | x :: xs, s => by
    have := addAll_out xs (Ln.add (.out x) s)
    simp only [addAll, List.map_cons, List.foldl_cons] at *
    rw [this]; simp [Ln.add]
theorem addAll_pth : ∀ (xs : List T_clocks_Path) (s : St4), addAll (xs.map Ln.pth) s = (s.1, s.2.1, s.2.2.1, s.2.2.2 ++ xs)
  | [], s => by simp [addAll]
  | x :: xs, s => by
    have := addAll_pth xs (Ln.add (.pth x) s)
    simp only [addAll, List.map_cons, List.foldl_cons] at *
    rw [this]; simp [Ln.add]
theorem addAll_lines (l : T_clocks_Limits) : addAll (lines l) (0, [], [], []) = (l.Period, l.Inputs, l.Outputs, l.Paths) := by
  unfold lines
  rw [addAll_app, addAll_app, addAll_app, addAll_inp, addAll_out, addAll_pth]
  simp [addAll, Ln.add]
theorem addAll_len : ∀ (ks : List Ln) (s : St4), (addAll ks s).2.1.length ≤ s.2.1.length + ks.length ∧ (addAll ks s).2.2.1.length ≤ s.2.2.1.length + ks.length ∧ (addAll ks s).2.2.2.length ≤ s.2.2.2.length + ks.length
  | [], s => by simp [addAll]
  | k :: ks, s => by
    have h := addAll_len ks (k.add s)
    have e : addAll (k :: ks) s = addAll ks (k.add s) := rfl
    rw [e]
    have h2 : (k.add s).2.1.length ≤ s.2.1.length + 1 ∧ (k.add s).2.2.1.length ≤ s.2.2.1.length + 1 ∧ (k.add s).2.2.2.length ≤ s.2.2.2.length + 1 := by
      cases k <;> simp [Ln.add]
    simp only [List.length_cons]
    omega
theorem text_free {k : Ln} (hk : k.Good) : Free 10 k.text := by
  obtain ⟨f1, f2, f3, f4, f5, f6, f7, f8⟩ := free_lit10
  cases k with
  | per n => exact f1.app (f8.app (num_ok (by have := hk.1; omega) hk.2).2.1)
  | inp x =>
    obtain ⟨w, a, b⟩ := hk
    exact f2.app (f8.app ((w.free (by decide)).app (f8.app ((num_ok a.1 a.2).2.1.app (f8.app (num_ok b.1 b.2).2.1)))))
  | out x =>
    obtain ⟨w, a⟩ := hk
    exact f3.app (f8.app ((w.free (by decide)).app (f8.app (num_ok a.1 a.2).2.1)))
  | pth x =>
    obtain ⟨w1, w2, a⟩ := hk
    have p1 := w1.free (c := 10) (by decide) f6 f7
    have p2 := w2.free (c := 10) (by decide) f6 f7
    rw [Ln.text]
    split
    · exact f4.app (f8.app (p1.app (f8.app p2)))
    · exact f5.app (f8.app ((num_ok a.1 a.2).2.1.app (f8.app (p1.app (f8.app p2)))))
theorem NoW.size {s : ByteArray} (h : NoW s) : (stW s).size ≤ 7 := by
  unfold stW
  by_cases e : s = (⟨#[]⟩ : ByteArray)
  · rw [if_pos e]; exact of_decide_eq_true rfl
  · rw [if_neg e]
    have := (h.resolve_left e).le
    exact (by simp only [ByteArray.size_append, sz_lit, List.size_toArray, List.length_cons, List.length_nil]; omega)
theorem text_size {k : Ln} (hk : k.Good) : k.text.size ≤ 100 := by
  cases k with
  | per n =>
    have a := (num_ok (by have := hk.1; omega) hk.2).2.2.2
    rw [Ln.text]
    exact (by simp only [ByteArray.size_append, sz_lit, List.size_toArray, List.length_cons, List.length_nil]; omega)
  | inp x =>
    obtain ⟨w, a, b⟩ := hk
    have w1 := w.le
    have a1 := (num_ok a.1 a.2).2.2.2
    have b1 := (num_ok b.1 b.2).2.2.2
    rw [Ln.text]
    exact (by simp only [ByteArray.size_append, sz_lit, List.size_toArray, List.length_cons, List.length_nil]; omega)
  | out x =>
    obtain ⟨w, a⟩ := hk
    have w1 := w.le
    have a1 := (num_ok a.1 a.2).2.2.2
    rw [Ln.text]
    exact (by simp only [ByteArray.size_append, sz_lit, List.size_toArray, List.length_cons, List.length_nil]; omega)
  | pth x =>
    obtain ⟨w1, w2, a⟩ := hk
    have p1 := w1.size
    have p2 := w2.size
    have a1 := (num_ok a.1 a.2).2.2.2
    rw [Ln.text]
    split <;> exact (by simp only [ByteArray.size_append, sz_lit, List.size_toArray, List.length_cons, List.length_nil]; omega)
theorem text_ne (k : Ln) : k.text ≠ (⟨#[]⟩ : ByteArray) := by
  intro e
  have h := congrArg ByteArray.size e
  have e0 : (⟨#[]⟩ : ByteArray).size = 0 := rfl
  rw [e0] at h
  cases k with
  | per n => rw [Ln.text] at h; simp only [ByteArray.size_append, sz_lit, List.size_toArray, List.length_cons, List.length_nil] at h; omega
  | inp x => rw [Ln.text] at h; simp only [ByteArray.size_append, sz_lit, List.size_toArray, List.length_cons, List.length_nil] at h; omega
  | out x => rw [Ln.text] at h; simp only [ByteArray.size_append, sz_lit, List.size_toArray, List.length_cons, List.length_nil] at h; omega
  | pth x =>
    rw [Ln.text] at h
    split at h
    · simp only [ByteArray.size_append, sz_lit, List.size_toArray, List.length_cons, List.length_nil] at h; omega
    · simp only [ByteArray.size_append, sz_lit, List.size_toArray, List.length_cons, List.length_nil] at h; omega
theorem lines_per {l : T_clocks_Limits} {y : Int} (hy : inb y (lines l).length) {m : Int} (h : gt (lines l) y = .per m) : y = 0 := by
  by_cases e : y = 0
  · exact e
  exfalso
  have hc : lines l = .per l.Period :: (l.Inputs.map Ln.inp ++ (l.Outputs.map Ln.out ++ l.Paths.map Ln.pth)) := by simp [lines]
  obtain ⟨k, rfl⟩ := Int.eq_ofNat_of_zero_le hy.1
  obtain ⟨k, rfl⟩ : ∃ j, k = j + 1 := ⟨k - 1, by omega⟩
  rw [hc] at h hy
  have hk : k < (l.Inputs.map Ln.inp ++ (l.Outputs.map Ln.out ++ l.Paths.map Ln.pth)).length := by have := hy.2; simp only [List.length_cons] at this; omega
  have hm := List.getElem_mem hk
  have e2 : gt (Ln.per l.Period :: (l.Inputs.map Ln.inp ++ (l.Outputs.map Ln.out ++ l.Paths.map Ln.pth))) ((k + 1 : Nat) : Int) = (l.Inputs.map Ln.inp ++ (l.Outputs.map Ln.out ++ l.Paths.map Ln.pth))[k] := by
    simp only [gt, Int.toNat_natCast, List.getD_eq_getElem?_getD, List.getElem?_cons_succ, List.getElem?_eq_getElem hk, Option.getD_some]
  rw [e2] at h
  rw [h] at hm
  simp at hm
theorem asks_ok : Ok P_maskkeep4_asks (fun r => r = true) := ⟨true, by decide +kernel, rfl⟩
section
variable {n : T_api_Netlist} {ins flops outs : Int} (h : NetW n ins flops outs) (hi : 1 ≤ ins ∧ ins ≤ 5) (hf : 0 ≤ flops ∧ flops ≤ 4) (ho : 1 ≤ outs ∧ outs ≤ 5)
  {p : Bool} {l : T_clocks_Limits} (hl : LimW n p l) (hp : l.Period ≤ 200)
include h hi hf ho hl hp
theorem lines_good : ∀ k ∈ lines l, k.Good := by
  intro k hk
  simp only [lines, List.mem_append, List.mem_map, List.mem_singleton] at hk
  rcases hk with ((rfl | ⟨x, hx, rfl⟩) | ⟨x, hx, rfl⟩) | ⟨x, hx, rfl⟩
  · exact ⟨hl.per.1, hp⟩
  · obtain ⟨i, hin, rfl⟩ := mem_gt hx
    have hw := (hl.inp i hin).2
    have w1 := hw.lo
    have w2 := hw.le
    have w3 := hw.hi
    exact ⟨word_inp h hi hf ho hl hp hin, by omega, by omega⟩
  · obtain ⟨i, hin, rfl⟩ := mem_gt hx
    have hw := (hl.out i hin).2
    exact ⟨word_out h hi hf ho hl hp hin, by omega, by omega⟩
  · obtain ⟨i, hin, rfl⟩ := mem_gt hx
    obtain ⟨a, b, c⟩ := hl.pth i hin
    exact ⟨name_in h hi hf ho hl hp a, name_out h hi hf ho hl hp b, by omega, by omega⟩
theorem lines_len : (lines l).length ≤ 14 := by
  have a := hl.inL
  have b := hl.outL
  have c := hl.pL
  have d := h.inL
  have e := h.outL
  simp only [lines, List.length_append, List.length_map, List.length_singleton]
  omega
theorem Read_ok : Ok (P_clocks_Read (unl ((lines l).map Ln.text))) (fun r => r = (l, 0, 0)) := by
  obtain ⟨w, hw, rfl, z1, z2⟩ := write_ok h hi hf ho hl hp
  have hg := lines_good h hi hf ho hl hp
  have hlen := lines_len h hi hf ho hl hp
  unfold P_clocks_Read
  refine ok_f (by omega) (ok_bd (R := fun r => r = (lines l).map Ln.text ++ [⟨#[]⟩]) ?_ ?_)
  · unfold P_strings_Split
    refine ok_ck ⟨by omega, Nat.le_refl 1⟩ (ok_some (split_unl ?_))
    intro x hx
    obtain ⟨k, hk, rfl⟩ := List.mem_map.1 hx
    exact text_free (hg k hk)
  rintro _ rfl
  refine ok_bs1 (R := fun r => r = (l.Period, l.Inputs, l.Outputs, l.Paths)) ?_ ?_
  · refine ok_lp (fun s => (0 ≤ s.1 ∧ s.1 ≤ (lines l).length + 1) ∧ s.2 = addAll ((lines l).take s.1.toNat) (0, [], [], [])) (fun s => ((lines l).length + 1 - s.1).toNat) ⟨⟨by simp, by simp only; omega⟩, rfl⟩ (by simp only; omega) ?_
    rintro ⟨y, s⟩ ⟨⟨y0, y1⟩, y2⟩
    simp only at y0 y1 y2
    unfold P_clocks_Read_L5
    obtain ⟨p1, I1, O1, T1⟩ := s
    dsimp only
    have hll : ((((lines l).map Ln.text ++ [(⟨#[]⟩ : ByteArray)]).length : Nat) : Int) = (lines l).length + 1 := by simp only [List.length_append, List.length_map, List.length_singleton]; omega
    refine ok_ite (fun hlt => ?_) fun hge => ok_some ⟨_, rfl, by rw [y2, List.take_of_length_le (by omega), addAll_lines]⟩
    refine ok_bs1 (R := fun r => r = addAll ((lines l).take (y + 1).toNat) (0, [], [], [])) ?_ ?_
    · refine ok_ck ⟨y0, by simp only [List.length_append, List.length_map, List.length_singleton]; omega⟩ (ok_lv ?_)
      by_cases e : y = (lines l).length
      · refine ok_t (gt_app_1 (by rw [List.length_map]; exact e)) (ok_some ⟨_, rfl, ?_⟩)
        rw [y2, List.take_of_length_le (by omega), List.take_of_length_le (by omega)]
      have hy : inb y (lines l).length := ⟨y0, by omega⟩
      have hgt : gt ((lines l).map Ln.text ++ [(⟨#[]⟩ : ByteArray)]) y = (gt (lines l) y).text := by
        rw [gt_app_l (by rw [List.length_map]; omega), gt_map Ln.text hy]
      rw [hgt]
      refine ok_f (text_ne _) (ok_bd (R := fun r => r = splitS (gt (lines l) y).text ⟨#[32]⟩) ?_ ?_)
      · unfold P_strings_Split
        have hz := text_size (hg _ (gt_mem hy))
        exact ok_ck ⟨by omega, Nat.le_refl 1⟩ (ok_some rfl)
      rintro _ rfl
      have hs := addAll_len ((lines l).take y.toNat) (0, [], [], [])
      rw [← y2] at hs
      simp only [List.length_take, List.length_nil] at hs
      refine ok_bd (read_ok (s := (p1, I1, O1, T1)) (hg _ (gt_mem hy)) (by simp only; omega) (by simp only; omega) (by simp only; omega) ?_) ?_
      · intro m hm
        have e0 := lines_per hy hm
        subst e0
        exact congrArg (·.1) y2
      rintro _ rfl
      refine ok_f (by simp) (ok_some ⟨_, rfl, ?_⟩)
      rw [take_snoc hy, addAll_app, ← y2]
      rfl
    rintro ⟨p2, I2, O2, T2⟩ hr
    exact ok_ar (by omega) (ok_some ⟨⟨⟨by simp only; omega, by simp only; omega⟩, hr⟩, by simp only; omega⟩)
  rintro _ rfl
  refine ok_bd (CCheck_ok h hi hf ho hl hp) ?_
  rintro _ rfl
  exact ok_f (by simp) (ok_some rfl)
theorem Text_ok : Ok (P_clocks_Text l) (fun r => r = (unl ((lines l).map Ln.text), 0)) := by
  unfold P_clocks_Text
  refine ok_bd (CCheck_ok h hi hf ho hl hp) ?_
  rintro _ rfl
  refine ok_f (by simp) (ok_bd (write_ok h hi hf ho hl hp) ?_)
  rintro _ ⟨rfl, -, -⟩
  exact ok_some rfl
end
theorem ClocksBack_ok {L : List Int} (hL : Strm L) : Ok (P_maskkeep4_ClocksBack L) (fun r => r = true) := by
  unfold P_maskkeep4_ClocksBack
  refine ok_bd (hL.range (by omega) (by omega) (by omega) (by omega)) ?_
  rintro ⟨ins, k1⟩ ⟨i0, i1, rfl⟩
  simp only at i0 i1
  refine ok_bd (hL.next (by simp only; omega) (by omega)) ?_
  rintro ⟨flops, k2⟩ ⟨f0, f1, -, rfl⟩
  have f1 := f1 (by omega)
  simp only at f0 f1
  refine ok_bd (hL.next (by simp only; omega) (by omega)) ?_
  rintro ⟨gates, k3⟩ ⟨g0, g1, -, rfl⟩
  have g1 := g1 (by omega)
  simp only at g0 g1
  refine ok_bd (hL.range (by simp only; omega) (by omega) (by omega) (by omega)) ?_
  rintro ⟨outs, k4⟩ ⟨o0, o1, rfl⟩
  simp only at o0 o1
  refine ok_bd (Netlist_ok hL (by simp only; omega) (by simp only; omega) ⟨i0, i1⟩ ⟨f0, by simp only; omega⟩ ⟨g0, by simp only; omega⟩ ⟨o0, o1⟩) ?_
  rintro ⟨n, k5⟩ ⟨hn, q1, q2⟩
  simp only at hn q1 q2
  have hi : 1 ≤ ins ∧ ins ≤ 5 := ⟨i0, i1⟩
  have hf : 0 ≤ flops ∧ flops ≤ 4 := ⟨f0, by omega⟩
  have ho : 1 ≤ outs ∧ outs ≤ 5 := ⟨o0, o1⟩
  refine ok_bd (Limits_ok hn hi hf ho hL (by simp only; omega) (by simp only; omega) true) ?_
  rintro ⟨l, k6⟩ ⟨⟨hl, hp⟩, -, -⟩
  simp only at hl hp
  refine ok_bd (Text_ok hn hi hf ho hl hp) ?_
  rintro _ rfl
  refine ok_bd (Read_ok hn hi hf ho hl hp) ?_
  rintro _ rfl
  refine ok_bd (Text_ok hn hi hf ho hl hp) ?_
  rintro _ rfl
  refine ok_bd asks_ok ?_
  rintro _ rfl
  refine ok_lv (ok_lv (ok_lv (ok_lv (ok_lv (ok_bd (R := fun r => r = 0) (ok_gd (fun _ => CheckFor_ok hn hi hf ho hl hp) fun hq => by simp at hq) ?_)))))
  rintro _ rfl
  exact ok_lv (ok_some (by simp))
end Go.Proofs.YtlolchgeedegdaaDoor.X
