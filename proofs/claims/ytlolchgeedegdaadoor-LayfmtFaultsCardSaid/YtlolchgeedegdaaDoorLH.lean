/- LayfmtFaults. Plain. -/
import Derived.Test.YtlolchgeedegdaaDoorLC
namespace Go.Proofs.YtlolchgeedegdaaDoor.X
open Go Go.RowKit
set_option linter.unusedVariables false
set_option linter.unusedSimpArgs false
set_option linter.unusedSectionVars false
theorem join_two (a b : List UInt8) (r : List (List UInt8)) (sep : List UInt8) : Go.Lib.join (a :: b :: r) sep = a ++ (sep ++ Go.Lib.join (b :: r) sep) := by
  simp [Go.Lib.join, List.intercalate]
theorem join_unl : ∀ ls : List ByteArray, Go.Lib.join ((ls ++ [(⟨#[]⟩ : ByteArray)]).map (·.data.toList)) [10] = (unl ls).data.toList
  | [] => by simp [Go.Lib.join, List.intercalate, unl]
  | x :: ls => by
    have ih := join_unl ls
    obtain ⟨y, r, e⟩ : ∃ y r, ls ++ [(⟨#[]⟩ : ByteArray)] = y :: r := by cases ls <;> simp
    rw [List.cons_append, e, List.map_cons, List.map_cons, join_two]
    rw [e, List.map_cons] at ih
    rw [ih, unl]
    simp [ByteArray.data_append]
theorem joinS_unl (ls : List ByteArray) : joinS (ls ++ [(⟨#[]⟩ : ByteArray)]) ⟨#[10]⟩ = unl ls := ba_ext (join_unl ls)
theorem writes_ok : Ok P_maskkeep4_writes (fun r => r = true) := ⟨true, by decide +kernel, rfl⟩
theorem xcount : P_layfmt_count ((⟨#[120]⟩ : ByteArray) ++ ⟨#[108, 97, 121, 111, 117, 116]⟩) = some (-1) ∧ P_layfmt_count ((⟨#[120]⟩ : ByteArray) ++ ⟨#[119, 97, 108, 108]⟩) = some (-1) ∧ P_layfmt_count ((⟨#[120]⟩ : ByteArray) ++ ⟨#[100, 114, 105, 118, 101]⟩) = some (-1) ∧
    P_layfmt_count ((⟨#[120]⟩ : ByteArray) ++ ⟨#[112, 105, 110]⟩) = some (-1) ∧ P_layfmt_count ((⟨#[120]⟩ : ByteArray) ++ ⟨#[119, 105, 114, 101]⟩) = some (-1) ∧ P_layfmt_count ((⟨#[120]⟩ : ByteArray) ++ ⟨#[118, 105, 97]⟩) = some (-1) := by decide +kernel
theorem xcount_ok (k : Lk) : P_layfmt_count ((⟨#[120]⟩ : ByteArray) ++ k.word) = some (-1) := by
  obtain ⟨a, b, c, d, e, f⟩ := xcount
  cases k with
  | pin p => rw [Lk.word]; split <;> assumption
  | lay l => exact a
  | wall l => exact b
  | wire l => exact e
  | via l => exact f
theorem xplace (w : ByteArray) : Ok (P_layfmt_place w) (fun _ => True) := by
  unfold P_layfmt_place
  exact ok_ite (fun _ => ok_some trivial) fun _ => ok_ite (fun _ => ok_some trivial) fun _ => ok_bd (R := fun _ => True) (ok_ite (fun _ => ok_some trivial) fun _ => ok_some trivial) fun _ _ => ok_ite (fun _ => ok_some trivial) fun _ => ok_ite (fun _ => ok_some trivial) fun _ => ok_ite (fun _ => ok_some trivial) fun _ => ok_some trivial
theorem free_x : Free 32 (⟨#[120]⟩ : ByteArray) ∧ Free 10 (⟨#[120]⟩ : ByteArray) := ⟨by simp [Free], by simp [Free]⟩
section
variable {l : T_rules_Layout} (hl : LayN l)
include hl
theorem XRead_ok {k : Int} (hk : inb k (llines l).length) {t : ByteArray} (ht : t = unl (stt ((llines l).map Lk.text) k ((⟨#[120]⟩ : ByteArray) ++ (gt (llines l) k).text))) (hz : t.size ≤ 3000) : Ok (P_layfmt_Read t) (fun r => r.2.1 = k + 1 ∧ r.2.2 = 10) := by
  have hg := ll_good hl
  have hlen := ll_len hl
  have hkn := hk.2
  have hk0 := hk.1
  obtain ⟨g1, g2, g3⟩ := word_free (gt (llines l) k)
  have hGk := hg _ (gt_mem hk)
  subst ht
  unfold P_layfmt_Read
  refine ok_f (by omega) (ok_bd (lines_ok ?_ (by omega) (by rw [stt_length, List.length_map]; omega)) ?_)
  · intro x hx
    obtain ⟨i, hi, rfl⟩ := mem_gt hx
    rw [stt_length] at hi
    rw [gt_stt _ _ (by rw [List.length_map]; exact hk) hi.1]
    rw [List.length_map] at hi
    split
    · exact free_x.2.app (g2.app (numsT_free hGk.1))
    · rw [gt_map Lk.text hi]
      exact (word_free _).2.1.app (numsT_free (hg _ (gt_mem hi)).1)
  rintro _ rfl
  refine ok_f (by simp) (ok_bs (R := fun o => ∃ z, o = Sum.inr z ∧ z.2.1 = k + 1 ∧ z.2.2 = 10) ?_ (fun x hx => ?_) fun z hz => ?_)
  · refine ok_lp (fun s => (0 ≤ s.2.1 ∧ s.2.1 ≤ k) ∧ s.2.2 = addAll ((llines l).take s.2.1.toNat) (0, 0, 0, 0, [], [], [], []) ∧ ∀ i, s.2.1 ≤ i → i < (llines l).length → s.1 ≤ (gt (llines l) i).part) (fun s => ((llines l).length - s.2.1).toNat) ⟨⟨by simp, by simp only; omega⟩, rfl, fun i _ _ => (part_le _).1⟩ (by simp only; omega) ?_
    rintro ⟨p, y, s⟩ ⟨⟨y0, y1⟩, y2, y3⟩
    simp only at y0 y1 y2 y3
    unfold P_layfmt_Read_L9
    obtain ⟨a, b, c, d, ws, vs, ps, xs⟩ := s
    dsimp only
    have hll : (((stt ((llines l).map Lk.text) k ((⟨#[120]⟩ : ByteArray) ++ (gt (llines l) k).text)).length : Nat) : Int) = (llines l).length := by rw [stt_length, List.length_map]
    have hy : inb y (llines l).length := ⟨y0, by omega⟩
    refine ok_t (by omega) (ok_ck ⟨y0, by omega⟩ (ok_lv ?_))
    rw [gt_stt _ _ (by rw [List.length_map]; exact hk) y0]
    by_cases e : y = k
    · rw [if_pos e]
      have hz' := hGk.1
      rw [show (⟨#[120]⟩ : ByteArray) ++ (gt (llines l) k).text = ((⟨#[120]⟩ : ByteArray) ++ (gt (llines l) k).word) ++ numsT (gt (llines l) k).nums by rw [Lk.text]; simp only [ByteArray.append_assoc]]
      refine ok_bd (words_ok (free_x.1.app g1) (by simp only [ByteArray.size_append, sz_lit, List.size_toArray, List.length_cons, List.length_nil]; omega) hz' (by have := nums_len (gt (llines l) k); omega) (xcount_ok _)) ?_
      rintro _ rfl
      refine ok_bd (xplace _) fun pl _ => ?_
      refine ok_lv (ok_lv (ok_lv (ok_lv (ok_lv (ok_t ?_ (ok_ar (by omega) (ok_some ⟨_, rfl, by simp only; omega, rfl⟩)))))))
      have hneg : ¬ (((gt (llines l) k).nums.length : Int) = -1) := by omega
      simp [hneg]
    rw [if_neg e, gt_map Lk.text hy]
    have hG := hg _ (gt_mem hy)
    obtain ⟨f1, f2, f3⟩ := word_free (gt (llines l) y)
    refine ok_bd (words_ok f1 (by omega) hG.1 (by have := nums_len (gt (llines l) y); omega) (count_ok _)) ?_
    rintro _ rfl
    refine ok_bd (ok_eq (placeL_ok _) rfl) ?_
    rintro _ rfl
    have hz := ll_zero hy
    have hp := y3 y (Int.le_refl _) (by omega)
    have hge := (part_le (gt (llines l) y)).1
    refine ok_lv (ok_lv (ok_lv (ok_lv (ok_lv (ok_f ?_ ?_)))))
    · simp only [decide_true, Bool.not_true, Bool.false_or, Bool.or_eq_true, Bool.and_eq_true, decide_eq_true_eq]
      omega
    have hs := addAll_len ((llines l).take y.toNat) (0, 0, 0, 0, [], [], [], [])
    rw [← y2] at hs
    simp only [List.length_take, List.length_nil] at hs
    refine ok_bd (enter_ok (s := (a, b, c, d, ws, vs, ps, xs)) hG (by simp only; omega) (by simp only; omega) (by simp only; omega) (by simp only; omega)) ?_
    rintro _ rfl
    refine ok_ar (by omega) (ok_some ⟨⟨⟨by simp only; omega, by simp only; omega⟩, ?_, ?_⟩, by simp only; omega⟩)
    · simp only
      rw [take_snoc hy, addAll_app, ← y2]
      rfl
    · intro i i0 i1
      simp only at i0 ⊢
      exact ll_mono y0 (by omega) i1
  · obtain ⟨z, hz, -⟩ := hx
    cases hz
  · obtain ⟨z', hz', h1, h2⟩ := hz
    cases hz'
    exact ok_some ⟨h1, h2⟩
end
theorem stt_app {α : Type} [Inhabited α] (xs : List α) (e : α) {k : Int} (hk : inb k xs.length) (v : α) : stt (xs ++ [e]) k v = stt xs k v ++ [e] := by
  obtain ⟨j, rfl⟩ := Int.eq_ofNat_of_zero_le hk.1
  have hj : j < xs.length := by have := hk.2; omega
  simp [stt, List.set_append, hj]
theorem unl_size_set : ∀ (ls : List ByteArray) (k : Nat) (v : ByteArray), (unl (ls.set k v)).size ≤ (unl ls).size + v.size
  | [], _, _ => by simp [unl]
  | x :: ls, 0, v => by
    rw [List.set_cons_zero, unl, unl]
    simp only [ByteArray.size_append]
    omega
  | x :: ls, k + 1, v => by
    have := unl_size_set ls k v
    rw [List.set_cons_succ, unl, unl]
    simp only [ByteArray.size_append]
    omega
theorem LayfmtFaults_ok {L : List Int} (hL : Strm L) {at_ : Int} (ha : I64 at_) : Ok (P_maskkeep4_LayfmtFaults L at_) (fun r => r = true) := by
  unfold P_maskkeep4_LayfmtFaults
  refine ok_bd (Layout_ok hL (k := 0) (by omega) (by omega)) ?_
  rintro ⟨l, k1⟩ ⟨hl, -, -⟩
  simp only at hl
  have hg := ll_good hl
  have hlen := ll_len hl
  refine ok_bd (LText_ok hl) ?_
  rintro _ ⟨rfl, hz⟩
  have hz : (unl ((llines l).map Lk.text)).size ≤ 2000 := hz
  refine ok_bd (R := fun r => r = (llines l).map Lk.text ++ [⟨#[]⟩]) ?_ ?_
  · unfold P_strings_Split
    refine ok_ck ⟨by simp only; omega, Nat.le_refl 1⟩ (ok_some (split_unl ?_))
    intro x hx
    obtain ⟨k, hk, rfl⟩ := List.mem_map.1 hx
    exact (word_free k).2.1.app (numsT_free (hg k hk).1)
  rintro _ rfl
  have hll : ((((llines l).map Lk.text ++ [(⟨#[]⟩ : ByteArray)]).length : Nat) : Int) = (llines l).length + 1 := by simp only [List.length_append, List.length_map, List.length_singleton]; omega
  refine ok_bd writes_ok ?_
  rintro _ rfl
  refine ok_lv (ok_lv (ok_f ?_ (ok_ar (by omega) (ok_bd (Below_ok at_ ha (by omega)) ?_))))
  · simp only [Bool.not_true, Bool.false_or, Bool.or_eq_true, decide_eq_true_eq]
    omega
  rintro k ⟨k0, k2, -⟩
  have k2 := k2 (by omega)
  have hk : inb k (llines l).length := ⟨k0, by omega⟩
  have hG := hg _ (gt_mem hk)
  have ez : (gt (llines l) k).text.size ≤ 100 := by
    have a := (word_free (gt (llines l) k)).2.2
    have b := numsT_size hG.1
    have c := nums_len (gt (llines l) k)
    rw [Lk.text]
    exact (by simp only [ByteArray.size_append, sz_lit, List.size_toArray, List.length_cons, List.length_nil]; omega)
  have hgt : gt ((llines l).map Lk.text ++ [(⟨#[]⟩ : ByteArray)]) k = (gt (llines l) k).text := by
    rw [gt_app_l (by rw [List.length_map]; omega), gt_map Lk.text hk]
  refine ok_ck ⟨k0, by omega⟩ (ok_lv ?_)
  rw [hgt]
  refine ok_ck (by simp only [ByteArray.size_append, sz_lit, List.size_toArray, List.length_cons, List.length_nil]; omega) (ok_ck ⟨k0, by omega⟩ (ok_lv ?_))
  rw [stt_app _ _ (by rw [List.length_map]; exact hk)]
  have hsz : (unl (stt ((llines l).map Lk.text) k ((⟨#[120]⟩ : ByteArray) ++ (gt (llines l) k).text))).size ≤ 3000 := by
    have a := unl_size_set ((llines l).map Lk.text) k.toNat ((⟨#[120]⟩ : ByteArray) ++ (gt (llines l) k).text)
    have b : ((⟨#[120]⟩ : ByteArray) ++ (gt (llines l) k).text).size ≤ 101 := (by simp only [ByteArray.size_append, sz_lit, List.size_toArray, List.length_cons, List.length_nil]; omega)
    exact Nat.le_trans a (by omega)
  refine ok_bd (R := fun r => r = unl (stt ((llines l).map Lk.text) k ((⟨#[120]⟩ : ByteArray) ++ (gt (llines l) k).text))) ?_ ?_
  · unfold P_strings_Join
    rw [joinS_unl]
    exact ok_ck ⟨by simp, by simp only [List.length_append, stt_length, List.length_map, List.length_singleton]; omega, by omega⟩ (ok_some rfl)
  rintro t ht
  refine ok_bd (XRead_ok hl hk ht (by rw [ht]; exact hsz)) ?_
  rintro ⟨x, y, z⟩ ⟨r1, r2⟩
  simp only at r1 r2
  subst r1; subst r2
  exact ok_ck (fun _ => by omega) (ok_lv (ok_lv (ok_some (by simp))))
end Go.Proofs.YtlolchgeedegdaaDoor.X
