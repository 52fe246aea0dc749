/- The stable sort, and tree.inOrder: a permutation. Plain. -/
import Derived.Test.YtnooiajahmichaaPI
namespace Go.Proofs.Ytnooiajahmichaa.X
open Go Go.RowKit
set_option linter.unusedVariables false
theorem stable_ok {cm : List T_floor_Point} {data : List Int} {n : Int} (hp : Pts cm data) (hn : n = data.length) : Ok (P_slices_stableCmpFunc_int_2 data n cm) (Kept data) := by
  unfold P_slices_stableCmpFunc_int_2
  have hf := hp.few
  refine ok_bd (R := fun o => 0 ≤ o.2 ∧ o.2 ≤ n ∧ Kept data o.1) ?_ ?_
  · refine ok_lp (fun s => 0 ≤ s.2.1 ∧ s.2.1 ≤ n ∧ s.2.2 = s.2.1 + 20 ∧ Kept data s.1) (fun s => (n + 20 - s.2.2).toNat) ⟨by simp, by simp only; omega, by simp, Kept.refl _⟩ (by simp only; omega) ?_
    rintro ⟨ys, a, b⟩ ⟨a0, a1, hb, hk⟩
    simp only at a0 a1 hb hk
    have hyl := hk.2
    unfold P_slices_stableCmpFunc_int_2_L2
    dsimp only
    refine ok_ite (fun hlt => ?_) fun hge => ok_some ⟨a0, a1, hk⟩
    exact ok_bd (insertion_ok (hp.kept hk) a0 (by omega) (by omega)) fun r hr => ok_ar' (by omega) fun x ex => ok_some ⟨⟨by simp only; omega, by simp only; omega, by simp only; omega, hk.trans hr⟩, by simp only; omega⟩
  rintro ⟨ys, a⟩ ⟨a0, a1, hk⟩
  simp only at a0 a1 hk
  dsimp only
  have hyl := hk.2
  refine ok_bd (insertion_ok (hp.kept hk) a0 (by omega) (by omega)) fun zs hz => ?_
  refine ok_bd (R := Kept data) ?_ fun r hr => ok_some hr
  refine ok_lp (fun s => 20 ≤ s.2 ∧ s.2 ≤ 2 * n + 20 ∧ Kept data s.1) (fun s => (2 * n + 20 - s.2).toNat) ⟨by simp, by simp only; omega, hk.trans hz⟩ (by simp only; omega) ?_
  rintro ⟨ws, bs⟩ ⟨b0, b1, hw⟩
  simp only at b0 b1 hw
  unfold P_slices_stableCmpFunc_int_2_L7
  dsimp only
  refine ok_ite (fun hlt => ?_) fun hge => ok_some hw
  refine ok_ar' (by omega) fun x32 e32 => ?_
  refine ok_bd (R := fun o => 0 ≤ o.2 ∧ o.2 ≤ n ∧ Kept data o.1) ?_ ?_
  · refine ok_lp (fun s => 0 ≤ s.2.1 ∧ s.2.1 ≤ n ∧ s.2.2 = s.2.1 + 2 * bs ∧ Kept data s.1) (fun s => (n + 2 * bs - s.2.2).toNat) ⟨by simp, by simp only; omega, by simp only; omega, hw⟩ (by simp only; omega) ?_
    rintro ⟨us, a, b⟩ ⟨a0, a1, hb, hu⟩
    simp only at a0 a1 hb hu
    have hul := hu.2
    unfold P_slices_stableCmpFunc_int_2_L9
    dsimp only
    refine ok_ite (fun hlt2 => ?_) fun hge => ok_some ⟨a0, a1, hu⟩
    exact ok_ar' (by omega) fun x40 e40 => ok_bd (symM_ok (hp.kept hu) a0 (by omega) (by omega) (by omega)) fun r hr => ok_ar' (by omega) fun x ex => ok_ar' (by omega) fun x2 ex2 => ok_some ⟨⟨by simp only; omega, by simp only; omega, by simp only; omega, hu.trans hr⟩, by simp only; omega⟩
  rintro ⟨us, a⟩ ⟨a0, a1, hu⟩
  simp only at a0 a1 hu
  dsimp only
  have hul := hu.2
  refine ok_ar' (by omega) fun x51 e51 => ok_bd (R := Kept data) (ok_ite (fun hq => ok_bd (symM_ok (hp.kept hu) a0 (by omega) (by omega) (by omega)) fun r hr => ok_some (hu.trans hr)) fun _ => ok_some hu) fun vs hv => ?_
  exact ok_ar' (by omega) fun x62 e62 => ok_some ⟨⟨by simp only; omega, by simp only; omega, hv⟩, by simp only; omega⟩
/-- The numbers below n. -/
def upto (n : Nat) : List Int := (List.range n).map fun k : Nat => (k : Int)
theorem upto_length (n : Nat) : (upto n).length = n := by simp [upto]
theorem upto_succ (n : Nat) : upto (n + 1) = upto n ++ [(n : Int)] := by simp [upto, List.range_succ]
theorem upto_mem {n : Nat} {x : Int} (h : x ∈ upto n) : 0 ≤ x ∧ x < n := by
  simp only [upto, List.mem_map, List.mem_range] at h
  obtain ⟨k, hk, rfl⟩ := h; omega
theorem inOrder_ok {at_ : List T_floor_Point} (hp : ∀ i, inb i at_.length → 0 ≤ (gt at_ i).X ∧ (gt at_ i).X ≤ 1000000 ∧ 0 ≤ (gt at_ i).Y ∧ (gt at_ i).Y ≤ 1000000) (hl : at_.length ≤ 1000000) : Ok (P_tree_inOrder at_) (fun r => r.Perm (upto at_.length)) := by
  unfold P_tree_inOrder
  refine ok_bd (R := fun r => r = upto at_.length) ?_ ?_
  · refine ok_lp (fun s => ∃ i : Nat, s.2 = i ∧ i ≤ at_.length ∧ s.1 = upto i) (fun s => ((at_.length : Int) - s.2).toNat) ⟨0, rfl, by omega, rfl⟩ (by simp only; omega) ?_
    rintro ⟨_, _⟩ ⟨i, rfl, hi, rfl⟩
    unfold P_tree_inOrder_L3
    dsimp only
    refine ok_ite (fun hlt => ?_) fun hge => ok_some (by rw [show i = at_.length by omega])
    have hul := upto_length i
    refine ok_lv (ok_ck (by unfold apOk; simp only [List.length_append, List.length_singleton]; omega) (ok_ar' (by omega) fun x ex => ok_some ⟨⟨i + 1, by simp only; omega, by omega, ?_⟩, by simp only; omega⟩))
    simp only [upto_succ]
  rintro _ rfl
  refine ok_bd (R := Kept (upto at_.length)) ?_ fun r hr => ok_some hr.1
  unfold P_slices_SortStableFunc_int_int_2
  exact ok_bd (stable_ok ⟨hp, by rw [upto_length]; omega, fun x hx => upto_mem hx⟩ rfl) fun r hr => ok_some hr
end Go.Proofs.Ytnooiajahmichaa.X
