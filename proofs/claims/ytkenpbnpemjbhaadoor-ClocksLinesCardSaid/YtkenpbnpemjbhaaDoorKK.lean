/- ClocksLines. Plain. -/
import Derived.Test.YtkenpbnpemjbhaaDoorKH
namespace Go.Proofs.YtkenpbnpemjbhaaDoor.X
open Go Go.RowKit
set_option linter.unusedVariables false
set_option linter.unusedSimpArgs false
set_option linter.unusedSectionVars false
theorem join_two (a b : List UInt8) (r : List (List UInt8)) (sep : List UInt8) : Go.Lib.join (a :: b :: r) sep = a ++ (sep ++ Go.Lib.join (b :: r) sep) := by
  simp [Go.Lib.join, List.intercalate]
theorem join_unl : ∀ ls : List ByteArray, Go.Lib.join ((ls ++ [(⟨#[]⟩ : ByteArray)]).map (·.data.toList)) [10] = (unl ls).data.toList
  | [] => by simp [Go.Lib.join, List.intercalate, unl]
  | x :: ls => by
    have ih := join_unl ls
    obtain ⟨y, r, e⟩ : ∃ y r, ls ++ [(⟨#[]⟩ : ByteArray)] = y :: r := by cases ls <;> simp
    rw [List.cons_append, e, List.map_cons, List.map_cons, join_two]
    rw [e, List.map_cons] at ih
    rw [ih, unl]
    simp [ByteArray.data_append]
theorem joinS_unl (ls : List ByteArray) : joinS (ls ++ [(⟨#[]⟩ : ByteArray)]) ⟨#[10]⟩ = unl ls := ba_ext (join_unl ls)
theorem unl_size : ∀ {ls : List ByteArray}, (∀ x ∈ ls, x.size ≤ 100) → (unl ls).size ≤ 101 * ls.length
  | [], _ => by simp [unl, sz_lit]
  | x :: ls, h => by
    have ih := unl_size (ls := ls) fun y hy => h y (by simp [hy])
    have hx := h x (by simp)
    rw [unl, ByteArray.size_append, ByteArray.size_append, List.length_cons]
    have : (⟨#[10]⟩ : ByteArray).size = 1 := rfl
    omega
theorem readJ_ok {ls : List ByteArray} (h1 : ∀ x ∈ ls, x.size ≤ 100) (h2 : ∀ x ∈ ls, Free 10 x) (hl : ls.length ≤ 100) {Q : T_clocks_Limits × Int × Int → Prop}
    (h : Ok (bs (lp (P_clocks_Read_L5 (ls ++ [⟨#[]⟩])) fuel (0, st0)) (fun y => some y) fun (b5_0_L5, b5_1_L5, b5_2_L5, b5_3_L5) =>
      bd (P_clocks_Check (T_clocks_Limits.mk b5_0_L5 b5_1_L5 b5_2_L5 b5_3_L5)) fun r11_1 =>
      if r11_1 ≠ 0 then
        some ((T_clocks_Limits.mk 0 [] [] []), (0 : Int), r11_1)
      else
        some ((T_clocks_Limits.mk b5_0_L5 b5_1_L5 b5_2_L5 b5_3_L5), (0 : Int), (0 : Int))) Q) :
    Ok (bd (P_strings_Join (ls ++ [⟨#[]⟩]) (⟨#[10]⟩ : ByteArray)) P_clocks_Read) Q := by
  have hz := unl_size h1
  refine ok_bd (R := fun r => r = unl ls) ?_ ?_
  · unfold P_strings_Join
    rw [joinS_unl]
    exact ok_ck ⟨by simp, by simp only [List.length_append, List.length_singleton]; omega, by omega⟩ (ok_some rfl)
  rintro _ rfl
  unfold P_clocks_Read
  refine ok_f (by omega) (ok_bd (R := fun r => r = ls ++ [⟨#[]⟩]) ?_ ?_)
  · unfold P_strings_Split
    exact ok_ck ⟨by omega, Nat.le_refl 1⟩ (ok_some (split_unl h2))
  rintro _ rfl
  exact h
/-- The lines but the first. -/
def tailL (l : T_clocks_Limits) : List Ln := (l.Inputs.map Ln.inp ++ l.Outputs.map Ln.out) ++ l.Paths.map Ln.pth
theorem lines_tail (l : T_clocks_Limits) : lines l = .per l.Period :: tailL l := by simp [lines, tailL]
theorem tail_per (l : T_clocks_Limits) : ∀ k ∈ tailL l, ∀ n, k ≠ .per n := by
  intro k hk n e
  subst e
  simp [tailL] at hk
def olines (l : T_clocks_Limits) : List (Option Ln) := (tailL l).map some ++ [none, some (.per l.Period)]
theorem olines_all (l : T_clocks_Limits) : oAll (olines l ++ [none]) st0 = (l.Period, l.Inputs, l.Outputs, l.Paths) := by
  unfold olines tailL
  rw [oAll_app, oAll_app, oAll_some, addAll_app, addAll_app, addAll_inp, addAll_out, addAll_pth]
  simp [oAll, addO, Ln.add]
theorem olines_per (l : T_clocks_Limits) : ∀ y, inb y (olines l ++ [none]).length → ∀ n, gt (olines l ++ [none]) y = some (.per n) → (oAll ((olines l ++ [none]).take y.toNat) st0).1 = 0 := by
  intro y hy n hn
  have hno : ∀ k ∈ (tailL l).map some ++ [none], ∀ n, k ≠ some (Ln.per n) := by
    intro k hk n e
    subst e
    simp only [List.mem_append, List.mem_map, List.mem_singleton] at hk
    rcases hk with ⟨x, hx, e⟩ | e
    · cases e; exact tail_per l _ hx n rfl
    · cases e
  have es : olines l ++ [none] = ((tailL l).map some ++ [none]) ++ [some (Ln.per l.Period), none] := by simp [olines]
  rw [es] at hn hy ⊢
  obtain ⟨h0, h1⟩ := hy
  simp only [List.length_append, List.length_map, List.length_cons, List.length_nil] at h1
  by_cases e : y = (tailL l).length + 2
  · exfalso
    have : gt (((tailL l).map some ++ [none]) ++ [some (Ln.per l.Period), none]) y = none := by
      have e3 : ((tailL l).map some ++ [none]) ++ [some (Ln.per l.Period), none] = ((tailL l).map some ++ [none, some (Ln.per l.Period)]) ++ [none] := by simp
      rw [e3]
      exact gt_app_1 (by simp only [List.length_append, List.length_map, List.length_cons, List.length_nil]; omega)
    rw [this] at hn
    cases hn
  · have hz := oAll_fst ((((tailL l).map some ++ [none]) ++ [some (Ln.per l.Period), none]).take y.toNat) st0 (by
      intro k hk
      rw [List.take_append_of_le_length (by simp only [List.length_append, List.length_map, List.length_cons, List.length_nil]; omega)] at hk
      exact hno k (List.mem_of_mem_take hk))
    rw [hz]
section
variable {n : T_api_Netlist} {ins flops outs : Int} (h : NetW n ins flops outs) (hi : 1 ≤ ins ∧ ins ≤ 5) (hf : 0 ≤ flops ∧ flops ≤ 4) (ho : 1 ≤ outs ∧ outs ≤ 5)
  {p : Bool} {l : T_clocks_Limits} (hl : LimW n p l) (hp : l.Period ≤ 200)
include h hi hf ho hl hp
theorem olines_good : ∀ x, some x ∈ olines l ++ [none] → x.Good := by
  intro x hx
  have hg := lines_good h hi hf ho hl hp
  refine hg x ?_
  rw [lines_tail]
  simp only [olines, List.mem_append, List.mem_map, List.mem_cons, List.not_mem_nil, or_false] at hx ⊢
  rcases hx with (⟨y, hy, e⟩ | e | e) | e
  · cases e; exact .inr hy
  · cases e
  · cases e; exact .inl rfl
  · cases e
theorem olines_text : (∀ x ∈ (olines l).map oText, x.size ≤ 100) ∧ ∀ x ∈ (olines l).map oText, Free 10 x := by
  have hg := olines_good h hi hf ho hl hp
  have key : ∀ x ∈ (olines l).map oText, x.size ≤ 100 ∧ Free 10 x := by
    intro x hx
    obtain ⟨k, hk, rfl⟩ := List.mem_map.1 hx
    cases k with
    | none => exact ⟨by simp [oText, sz_lit], by simp [oText, Free]⟩
    | some k => exact ⟨text_size (hg k (by simp [hk])), text_free (hg k (by simp [hk]))⟩
  exact ⟨fun x hx => (key x hx).1, fun x hx => (key x hx).2⟩
theorem olines_len : (olines l).length = (lines l).length + 1 := by
  rw [lines_tail]; simp [olines]
end
theorem sub_tail {α : Type} (x : α) (xs : List α) (y : α) : X.sub ((x :: xs) ++ [y]) 1 ((((x :: xs) ++ [y]).length : Int) - 1) = xs := by
  have e : ((((x :: xs) ++ [y]).length : Int) - 1).toNat = xs.length + 1 := by simp only [List.length_append, List.length_cons, List.length_nil]; omega
  simp [X.sub, e]
theorem ins_app {α : Type} (xs : List α) (y b : α) {k : Nat} (hk : k ≤ xs.length) : (xs ++ [y]).take k ++ b :: (xs ++ [y]).drop k = (xs.take k ++ b :: xs.drop k) ++ [y] := by
  rw [List.take_append_of_le_length hk, List.drop_append_of_le_length hk]; simp
theorem ClocksLines_ok {L : List Int} (hL : Strm L) : Ok (P_maskkeep4_ClocksLines L) (fun r => r = true) := by
  unfold P_maskkeep4_ClocksLines
  refine ok_bd (hL.range (by omega) (by omega) (by omega) (by omega)) ?_
  rintro ⟨ins, k1⟩ ⟨i0, i1, rfl⟩
  simp only at i0 i1
  refine ok_bd (hL.next (by simp only; omega) (by omega)) ?_
  rintro ⟨flops, k2⟩ ⟨f0, f1, -, rfl⟩
  have f1 := f1 (by omega)
  simp only at f0 f1
  refine ok_bd (hL.next (by simp only; omega) (by omega)) ?_
  rintro ⟨gates, k3⟩ ⟨g0, g1, -, rfl⟩
  have g1 := g1 (by omega)
  simp only at g0 g1
  refine ok_bd (hL.range (by simp only; omega) (by omega) (by omega) (by omega)) ?_
  rintro ⟨outs, k4⟩ ⟨o0, o1, rfl⟩
  simp only at o0 o1
  refine ok_bd (Netlist_ok hL (by simp only; omega) (by simp only; omega) ⟨i0, i1⟩ ⟨f0, by simp only; omega⟩ ⟨g0, by simp only; omega⟩ ⟨o0, o1⟩) ?_
  rintro ⟨n, k5⟩ ⟨hn, q1, q2⟩
  simp only at hn q1 q2
  have hi : 1 ≤ ins ∧ ins ≤ 5 := ⟨i0, i1⟩
  have hf : 0 ≤ flops ∧ flops ≤ 4 := ⟨f0, by omega⟩
  have ho : 1 ≤ outs ∧ outs ≤ 5 := ⟨o0, o1⟩
  refine ok_bd (Limits_ok hn hi hf ho hL (by simp only; omega) (by simp only; omega) true) ?_
  rintro ⟨l, k6⟩ ⟨⟨hl, hp⟩, w1, w2⟩
  simp only at hl hp w1 w2
  have hlen := lines_len hn hi hf ho hl hp
  have hg := lines_good hn hi hf ho hl hp
  obtain ⟨w, hw, rfl, z1, z2⟩ := write_ok hn hi hf ho hl hp
  refine ok_bd (Text_ok hn hi hf ho hl hp) ?_
  rintro _ rfl
  refine ok_bd (R := fun r => r = (lines l).map Ln.text ++ [⟨#[]⟩]) ?_ ?_
  · unfold P_strings_Split
    refine ok_ck ⟨by simp only; omega, Nat.le_refl 1⟩ (ok_some (split_unl ?_))
    intro x hx
    obtain ⟨k, hk, rfl⟩ := List.mem_map.1 hx
    exact text_free (hg k hk)
  rintro _ rfl
  refine ok_bd asks_ok ?_
  rintro _ rfl
  have hlt := lines_tail l
  rw [hlt] at hlen ⊢
  rw [List.map_cons]
  simp only [List.length_cons] at hlen
  refine ok_lv (ok_lv (ok_f ?_ (ok_ar (by simp only [List.length_append, List.length_cons, List.length_map, List.length_nil]; omega) (ok_ck (by simp only [List.length_append, List.length_cons, List.length_map, List.length_nil]; omega) (ok_lv ?_)))))
  · simp only [List.length_append, List.length_cons, List.length_map, List.length_nil, Bool.or_eq_true, decide_eq_true_eq, Bool.not_true, ne_eq, not_true_eq_false, Bool.false_eq_true, false_or]
    omega
  rw [sub_tail, List.nil_append]
  refine ok_lv (ok_ck (by simp only [apOk, List.length_map]; omega) (ok_ck ⟨by omega, by simp only [List.length_append, List.length_cons, List.length_map, List.length_nil]; omega⟩ (ok_lv ?_)))
  rw [show gt (((Ln.per l.Period).text :: (tailL l).map Ln.text) ++ [(⟨#[]⟩ : ByteArray)]) 0 = (Ln.per l.Period).text from rfl]
  have ez : (tailL l).map Ln.text ++ [(⟨#[]⟩ : ByteArray), (Ln.per l.Period).text] = (olines l).map oText := by
    simp only [olines, List.map_append, List.map_map, List.map_cons, List.map_nil]; rfl
  rw [ez]
  have hol := olines_len hn hi hf ho hl hp
  rw [hlt, List.length_cons] at hol
  obtain ⟨t1, t2⟩ := olines_text hn hi hf ho hl hp
  refine ok_lv (ok_ck (by simp only [apOk, List.length_map]; omega) (ok_lv (ok_ck (by simp only [apOk, List.length_append, List.length_singleton, List.length_map]; omega) ?_)))
  have r1 : Ok (bd (P_strings_Join ((olines l).map oText ++ [⟨#[]⟩]) (⟨#[10]⟩ : ByteArray)) P_clocks_Read) (fun r => r = (l, 0, 0)) := by
    refine readJ_ok t1 t2 (by rw [List.length_map]; omega) ?_
    have e1 : (olines l).map oText ++ [(⟨#[]⟩ : ByteArray)] = (olines l ++ [none]).map oText := by rw [List.map_append]; rfl
    rw [e1]
    refine ok_bs1 (R := fun r => r = (l.Period, l.Inputs, l.Outputs, l.Paths)) ?_ ?_
    · refine (lines_ok (olines_good hn hi hf ho hl hp) (by rw [List.length_append, List.length_singleton]; omega) (olines_per l)).mono ?_
      rintro _ rfl
      exact ⟨_, rfl, olines_all l⟩
    rintro _ rfl
    refine ok_bd (CCheck_ok hn hi hf ho hl hp) ?_
    rintro _ rfl
    exact ok_f (by simp) (ok_some rfl)
  obtain ⟨s1, hs1, e1, he1, rfl⟩ : ∃ s1, P_strings_Join ((olines l).map oText ++ [⟨#[]⟩]) (⟨#[10]⟩ : ByteArray) = some s1 ∧ ∃ e1, P_clocks_Read s1 = some e1 ∧ e1 = (l, 0, 0) := by
    obtain ⟨r, hr, q⟩ := r1
    cases hj : P_strings_Join ((olines l).map oText ++ [⟨#[]⟩]) (⟨#[10]⟩ : ByteArray) with
    | none => rw [hj] at hr; cases hr
    | some s1 => rw [hj] at hr; exact ⟨s1, rfl, r, hr, q⟩
  refine ok_bd ⟨s1, hs1, rfl⟩ ?_
  rintro _ rfl
  refine ok_bd ⟨_, he1, rfl⟩ ?_
  rintro _ rfl
  refine ok_bd (Text_ok hn hi hf ho hl hp) ?_
  rintro _ rfl
  refine ok_bd (hL.next (by simp only; omega) (by simp only [List.length_append, List.length_singleton, List.length_map]; omega)) ?_
  rintro ⟨k, k7⟩ ⟨k0, k1, -, rfl⟩
  have k1 := k1 (by simp only [List.length_append, List.length_singleton, List.length_map]; omega)
  simp only [List.length_append, List.length_singleton, List.length_map] at k0 k1
  have kn : k.toNat ≤ ((olines l).map oText).length := by rw [List.length_map]; omega
  refine ok_ck (by simp only [List.length_append, List.length_singleton, List.length_map]; omega) (ok_ck (by simp only [List.length_append, List.length_singleton, List.length_map]; omega) (ok_lv ?_))
  dsimp only
  rw [show ks_9d68bc03 = bad from bad_eq, ins_app _ _ _ kn]
  have hA : ∀ x ∈ ((olines l).map oText).take k.toNat ++ bad :: ((olines l).map oText).drop k.toNat, x.size ≤ 100 ∧ Free 10 x := by
    intro x hx
    simp only [List.mem_append, List.mem_cons] at hx
    rcases hx with q | q | q
    · exact ⟨t1 x (List.mem_of_mem_take q), t2 x (List.mem_of_mem_take q)⟩
    · rw [q]; exact ⟨by rw [bad_size]; omega, bad_free⟩
    · exact ⟨t1 x (List.mem_of_mem_drop q), t2 x (List.mem_of_mem_drop q)⟩
  have hB : (((olines l).map oText).take k.toNat ++ bad :: ((olines l).map oText).drop k.toNat).length = (olines l).length + 1 := by
    simp only [List.length_append, List.length_cons, List.length_take, List.length_drop, List.length_map]; omega
  have r2 : Ok (bd (P_strings_Join ((((olines l).map oText).take k.toNat ++ bad :: ((olines l).map oText).drop k.toNat) ++ [⟨#[]⟩]) (⟨#[10]⟩ : ByteArray)) P_clocks_Read) (fun r => r.2.1 = k + 1 ∧ r.2.2 = 10) := by
    refine readJ_ok (fun x hx => (hA x hx).1) (fun x hx => (hA x hx).2) (by omega) ?_
    refine ok_bs (R := fun o => ∃ z, o = Sum.inr (z, k + 1, 10)) ?_ ?_ ?_
    · refine linesBad_ok (ks := olines l ++ [none]) (olines_good hn hi hf ho hl hp) (by rw [List.length_append, List.length_singleton]; omega) (olines_per l) ⟨k0, by rw [List.length_append, List.length_singleton]; omega⟩ (by rw [List.length_append, List.length_singleton, hB]; omega) (by rw [List.length_append, List.length_singleton, hB]; omega) ?_ ?_
      · intro y y0 y1
        have hy : inb y (olines l).length := ⟨y0, by omega⟩
        rw [gt_app_l (xs := olines l) (by omega), ← gt_map oText hy, List.append_assoc, gt_app_l (by rw [List.length_take, List.length_map]; omega)]
        obtain ⟨j, rfl⟩ := Int.eq_ofNat_of_zero_le y0
        simp only [gt, Int.toNat_natCast, List.getD_eq_getElem?_getD]
        rw [List.getElem?_take_of_lt (by omega)]
      · rw [List.append_assoc]
        obtain ⟨j, rfl⟩ := Int.eq_ofNat_of_zero_le k0
        simp only [gt, Int.toNat_natCast, List.getD_eq_getElem?_getD]
        rw [List.getElem?_append_right (by rw [List.length_take]; omega), List.length_take, List.length_map, show j - min j (olines l).length = 0 by omega]
        rfl
    · rintro x ⟨z, e⟩
      cases e
    · rintro x ⟨z, e⟩
      cases e
      exact ok_some ⟨rfl, rfl⟩
  obtain ⟨s2, hs2, e2, he2, q3, q4⟩ : ∃ s1, P_strings_Join ((((olines l).map oText).take k.toNat ++ bad :: ((olines l).map oText).drop k.toNat) ++ [⟨#[]⟩]) (⟨#[10]⟩ : ByteArray) = some s1 ∧ ∃ e1, P_clocks_Read s1 = some e1 ∧ e1.2.1 = k + 1 ∧ e1.2.2 = 10 := by
    obtain ⟨r, hr, q⟩ := r2
    cases hj : P_strings_Join ((((olines l).map oText).take k.toNat ++ bad :: ((olines l).map oText).drop k.toNat) ++ [⟨#[]⟩]) (⟨#[10]⟩ : ByteArray) with
    | none => rw [hj] at hr; cases hr
    | some s1 => rw [hj] at hr; exact ⟨s1, rfl, r, hr, q⟩
  refine ok_bd ⟨s2, hs2, rfl⟩ ?_
  rintro _ rfl
  refine ok_bd ⟨_, he2, rfl⟩ ?_
  rintro _ rfl
  rw [hlt, List.map_cons, q3, q4]
  refine ok_lv (ok_lv (ok_ck (fun _ => by omega) (ok_lv (ok_lv (ok_some ?_)))))
  simp
end Go.Proofs.YtkenpbnpemjbhaaDoor.X
