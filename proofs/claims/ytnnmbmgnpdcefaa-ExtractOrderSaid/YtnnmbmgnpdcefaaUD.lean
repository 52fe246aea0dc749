/- extract.grow: the delays; the whole. Plain. -/
import Derived.Test.YtnnmbmgnpdcefaaUC
namespace Go.Proofs.Ytnnmbmgnpdcefaa.X
open Go Go.RowKit
set_option linter.unusedVariables false
set_option linter.unusedSimpArgs false
set_option linter.unusedSectionVars false
theorem delay_ok {G : List T_extract_step} {order : List T_extract_visit} (h : Tr G order.length (fun i => (gt order i).fat) (fun i => (gt order i).fup) (fun i => (gt order i).fres)) (hlen : order.length ≤ 30000) {b : List (T_rules_Spot × Int)} {C : Int} (hC : 0 ≤ C ∧ C ≤ 10000000000000)
    (hr : ∀ k : Nat, 0 < k → k < order.length → 0 ≤ (gt order k).fres * mget (gt order k).fat b 0 ∧ (gt order k).fres * mget (gt order k).fat b 0 ≤ C) :
    Ok (lp (P_extract_tree_grow_L30 order b) fuel (0, [])) (fun D => mget (gt order 0).fat D 0 = 0 ∧ (∀ k : Nat, 0 < k → k < order.length → mget (gt order k).fat D 0 = mget (gt order k).fup D 0 + (gt order k).fres * mget (gt order k).fat b 0) ∧ (∀ v, mhas v D = true ↔ ∃ k : Nat, k < order.length ∧ (gt order k).fat = v) ∧ ∀ k : Nat, k < order.length → 0 ≤ mget (gt order k).fat D 0) := by
  refine ok_lp (fun s => ∃ m : Nat, s.1 = m ∧ m ≤ order.length ∧ (0 < m → mget (gt order 0).fat s.2 0 = 0) ∧ (∀ k : Nat, 0 < k → k < m → mget (gt order k).fat s.2 0 = mget (gt order k).fup s.2 0 + (gt order k).fres * mget (gt order k).fat b 0) ∧ (∀ v, mhas v s.2 = true ↔ ∃ k : Nat, k < m ∧ (gt order k).fat = v) ∧ ∀ k : Nat, k < m → 0 ≤ mget (gt order k).fat s.2 0 ∧ mget (gt order k).fat s.2 0 ≤ k * C) (fun s => ((order.length : Int) - s.1).toNat)
    ⟨0, rfl, Nat.zero_le _, fun h => by omega, fun k _ hk => by omega, fun v => ⟨fun hv => (by rw [mhas_nil] at hv; cases hv), fun ⟨k, hk, _⟩ => by omega⟩, fun k hk => by omega⟩ (by simp only; omega) ?_
  rintro ⟨y, D⟩ ⟨m, hy, hm, h0, hst, hhas, hbd⟩
  simp only at hy h0 hst hhas hbd ⊢
  subst hy
  unfold P_extract_tree_grow_L30
  dsimp only
  have hpos := h.pos
  refine ok_ite (fun hlt => ?_) fun hge => ?_
  · have hmn : m < order.length := by omega
    refine ok_ck ⟨by omega, hlt⟩ (ok_lv ?_)
    rw [spot_eta, spot_eta]
    have hother : ∀ k : Nat, k < m → ¬ (gt order (k : Int)).fat = (gt order (m : Int)).fat := fun k hk e => by
      have := h.inj k m (by omega) hmn e
      omega
    have hupk : ∀ k : Nat, 0 < k → k ≤ m → ¬ (gt order (k : Int)).fup = (gt order (m : Int)).fat := fun k k0 hk e => by
      obtain ⟨i, hi, hi2, _⟩ := h.par k k0 (by omega)
      have := h.inj i m (by omega) hmn (hi2.trans e)
      omega
    have hfin : ∀ {D' : List (T_rules_Spot × Int)} {x : Int}, D' = mput (gt order (m : Int)).fat x D → (m = 0 → x = 0) → (0 < m → x = mget (gt order (m : Int)).fup D 0 + (gt order (m : Int)).fres * mget (gt order (m : Int)).fat b 0) → (0 ≤ x ∧ x ≤ m * C) →
        (0 < m + 1 → mget (gt order 0).fat D' 0 = 0) ∧ (∀ k : Nat, 0 < k → k < m + 1 → mget (gt order k).fat D' 0 = mget (gt order k).fup D' 0 + (gt order k).fres * mget (gt order k).fat b 0) ∧ (∀ v, mhas v D' = true ↔ ∃ k : Nat, k < m + 1 ∧ (gt order k).fat = v) ∧ ∀ k : Nat, k < m + 1 → 0 ≤ mget (gt order k).fat D' 0 ∧ mget (gt order k).fat D' 0 ≤ k * C := by
      intro D' x e x0 x1 xb
      subst e
      refine ⟨fun _ => ?_, fun k k0 k1 => ?_, fun v => ?_, fun k hk => ?_⟩
      · rw [mget_mput]
        by_cases q : m = 0
        · subst q; rw [if_pos (by rfl)]; exact x0 rfl
        · rw [if_neg (show ¬ (gt order 0).fat = (gt order (m : Int)).fat from hother 0 (by omega))]; exact h0 (by omega)
      · rw [mget_mput, mget_mput, if_neg (hupk k k0 (by omega))]
        by_cases q : k = m
        · subst q; rw [if_pos rfl]; exact x1 k0
        · rw [if_neg (hother k (by omega))]; exact hst k k0 (by omega)
      · rw [mhas_mput]
        constructor
        · intro hv
          split at hv
          · rename_i q; exact ⟨m, by omega, q.symm⟩
          · obtain ⟨k, hk, e⟩ := (hhas v).1 hv; exact ⟨k, by omega, e⟩
        · rintro ⟨k, hk, e⟩
          split
          · rfl
          · rename_i q
            by_cases p : k = m
            · subst p; exact absurd e.symm q
            · exact (hhas v).2 ⟨k, by omega, e⟩
      · rw [mget_mput]
        by_cases q : k = m
        · subst q; rw [if_pos rfl]; exact xb
        · rw [if_neg (hother k (by omega))]; exact hbd k (by omega)
    refine ok_bd (R := fun D' => (0 < m + 1 → mget (gt order 0).fat D' 0 = 0) ∧ (∀ k : Nat, 0 < k → k < m + 1 → mget (gt order k).fat D' 0 = mget (gt order k).fup D' 0 + (gt order k).fres * mget (gt order k).fat b 0) ∧ (∀ v, mhas v D' = true ↔ ∃ k : Nat, k < m + 1 ∧ (gt order k).fat = v) ∧ ∀ k : Nat, k < m + 1 → 0 ≤ mget (gt order k).fat D' 0 ∧ mget (gt order k).fat D' 0 ≤ k * C) (ok_ite (fun hq => ?_) fun hq => ?_) fun D' hD' => ok_ar (by omega) (ok_some ⟨⟨m + 1, by simp, by omega, hD'⟩, by simp only; omega⟩)
    · have hm0 : m = 0 := by omega
      exact ok_lv (ok_some (hfin rfl (fun _ => rfl) (fun h => by omega) ⟨Int.le_refl _, by rw [hm0]; simp⟩))
    · have hm0 : 0 < m := by omega
      obtain ⟨i, hi, hi2, _⟩ := h.par m hm0 hmn
      try simp only at hi2
      have hb1 := hbd i hi
      rw [hi2] at hb1
      have hb2 := hr m hm0 hmn
      have hic : (i : Int) * C + C ≤ m * C := by
        rw [show (i : Int) * C + C = ((i : Int) + 1) * C by rw [Int.add_mul, Int.one_mul]]
        exact Int.mul_le_mul_of_nonneg_right (by omega) hC.1
      have hmc : (m : Int) * C ≤ 30000 * 10000000000000 := Int.le_trans (Int.mul_le_mul_of_nonneg_right (by omega) hC.1) (Int.mul_le_mul_of_nonneg_left hC.2 (by omega))
      refine ok_lv (ok_lv (ok_ar (by omega) (ok_ar (by omega) (ok_lv (ok_some (hfin rfl (fun h => by omega) (fun _ => rfl) ⟨by omega, by omega⟩))))))
  · have hmn : m = order.length := by omega
    subst hmn
    exact ok_some ⟨h0 hpos, hst, hhas, fun k hk => (hbd k hk).1⟩
theorem res_bd (s : T_extract_step) : 2 ≤ resI s ∧ resI s ≤ 5 := by unfold resI; split <;> (try split) <;> omega
theorem grow_ok {G : List T_extract_step} (hn : G.Nodup) (hd : ∀ s ∈ G, s.fa ≠ s.fb) (hG : G.length ≤ 10000) {next : List (T_rules_Spot × List T_extract_step)} (hA : Adj G next) {load : List (T_rules_Spot × Int)} {M : Int} (hM : 0 ≤ M ∧ M ≤ 1000000) (hl : ∀ v, 0 ≤ mget v load 0 ∧ mget v load 0 ≤ M) (root : T_rules_Spot)
    {x0 x1 x2 x3 : Int} {ws : List T_rules_Wire} {vs : List T_rules_Via} {ps : List T_rules_Pin} {wl : List T_floor_Wall} :
    Ok (P_extract_tree_grow x0 x1 x2 x3 ws vs ps wl next load [] root) (fun r => ∃ n at_ up rs, at_ 0 = root ∧ Tr G n at_ up rs ∧ ((r.1 = false ∧ sumN (fun i => deg G (at_ i)) n ≠ 2 * ((n : Int) - 1)) ∨
      (r.1 = true ∧ sumN (fun i => deg G (at_ i)) n = 2 * ((n : Int) - 1) ∧ (∃ B, Sol n at_ up rs (fun v => mget v load 0) (fun v => mget v r.2 0) B) ∧ (∀ v, mhas v r.2 = true ↔ ∃ k, k < n ∧ at_ k = v) ∧ ∀ k, k < n → 0 ≤ mget (at_ k) r.2 0))) := by
  unfold P_extract_tree_grow
  refine ok_lv (ok_bd (bfs_ok hn hd hG hA rfl rfl) ?_)
  rintro ⟨order, steps⟩ ⟨⟨sn, hB⟩, hs, hsb, hc⟩
  simp only at hB hs hsb hc ⊢
  have ht := hB.tr hn hd hc
  have hlen := hB.len
  have hpos := hB.ne
  refine ok_ar (by omega) (ok_ar (by omega) (ok_ite (fun hne => ok_some ?_) fun heq => ok_ar (by omega) ?_))
  · exact ⟨order.length, _, _, _, congrArg T_extract_visit.fat hB.r0, ht, .inl ⟨rfl, by rw [← hs]; exact hne⟩⟩
  · refine ok_bd (beyond_ok ht (by omega) hM hl rfl) ?_
    intro b hb
    have hnM : (order.length : Int) * M ≤ 30000 * 1000000 := Int.le_trans (Int.mul_le_mul_of_nonneg_right (by omega) hM.1) (Int.mul_le_mul_of_nonneg_left hM.2 (by omega))
    have hnM0 : 0 ≤ (order.length : Int) * M := Int.mul_nonneg (by omega) hM.1
    refine ok_bd (delay_ok ht (by omega) (C := 5 * (order.length * M)) (by omega) fun k k0 k1 => ?_) ?_
    · obtain ⟨i, _, _, s, _, _, hrs⟩ := ht.par k k0 k1
      try simp only at hrs
      have h1 := res_bd s
      have h2 := hb.bd_ k k1
      try simp only at h2
      rw [hrs]
      refine ⟨Int.mul_nonneg (by omega) h2.1, ?_⟩
      exact Int.le_trans (Int.mul_le_mul_of_nonneg_right h1.2 h2.1) (Int.mul_le_mul_of_nonneg_left h2.2 (by omega))
    intro D hD
    obtain ⟨d1, d2, d3, d4⟩ := hD
    refine ok_some ⟨order.length, _, _, _, congrArg T_extract_visit.fat hB.r0, ht, .inr ⟨rfl, by rw [← hs]; omega, ⟨fun k => mget (gt order (k : Int)).fat b 0, ?_⟩, d3, d4⟩⟩
    exact ⟨d1, d2, fun i hi => hb.dn i (Nat.zero_le _) hi⟩
end Go.Proofs.Ytnnmbmgnpdcefaa.X
