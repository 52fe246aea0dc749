/- symMerge and the stable sort. Plain. -/
import Derived.Test.YtnooiajahmichaaPH
namespace Go.Proofs.Ytnooiajahmichaa.X
open Go Go.RowKit
set_option linter.unusedVariables false
theorem half {x : Int} (h0 : 0 ≤ x) (h1 : x < 4611686018427387904) : shr .u64 (x % 18446744073709551616) 1 = x / 2 := by
  rw [Int.emod_eq_of_lt h0 (by omega)]
  show x.fdiv (2 ^ 1) = x / 2
  rw [Int.fdiv_eq_ediv_of_nonneg _ (by decide)]; rfl
/-- A search between two bounds. -/
theorem find_ok {body : (Int × Int) → Option ((Int × Int) ⊕ Int)} {i j lo hi : Int} (h0 : 0 ≤ lo) (h1 : lo ≤ i) (h2 : i ≤ j) (h3 : j ≤ hi) (h4 : hi ≤ 1000000)
    (h : ∀ i j, lo ≤ i → i ≤ j → j ≤ hi → Ok (body (i, j)) (fun o => match o with | .inl s => lo ≤ s.1 ∧ s.1 ≤ s.2 ∧ s.2 ≤ hi ∧ s.2 - s.1 < j - i | .inr r => r = i ∧ j ≤ i)) :
    Ok (lp body fuel (i, j)) (fun r => lo ≤ r ∧ r ≤ hi) := by
  refine ok_lp (fun s => lo ≤ s.1 ∧ s.1 ≤ s.2 ∧ s.2 ≤ hi) (fun s => (s.2 - s.1).toNat) ⟨h1, h2, h3⟩ (by simp only; omega) ?_
  rintro ⟨i, j⟩ ⟨a, b, c⟩
  simp only at a b c
  refine (h i j a b c).mono ?_
  rintro (⟨i', j'⟩ | r) h
  · simp only at h ⊢; omega
  · simp only at h ⊢; omega
theorem symMerge_ok {cm : List T_floor_Point} : ∀ (k : Nat) (data : List Int) (a m b : Int), Pts cm data → 0 ≤ a → a < m → m < b → b ≤ data.length → (b - a).toNat < k → Ok (rcf P_slices_symMergeCmpFunc_int_2_B k (data, a, m, b, cm)) (Kept data) := by
  intro k
  induction k with
  | zero => intro data a m b _ _ _ _ _ h; omega
  | succ k ih =>
    intro data a m b hp h0 h1 h2 h3 hk
    have hf := hp.few
    show Ok (P_slices_symMergeCmpFunc_int_2_B (rcf P_slices_symMergeCmpFunc_int_2_B k) (data, a, m, b, cm)) (Kept data)
    unfold P_slices_symMergeCmpFunc_int_2_B
    dsimp only
    refine ok_ar' (by omega) fun x27 e27 => ok_ite (fun hq => ?_) fun hq => ok_ar' (by omega) fun x79 e79 => ok_ite (fun hq2 => ?_) fun hq2 => ?_
    · refine ok_bd (find_ok (lo := m) (hi := b) (by omega) (by omega) (by omega) (by omega) (by omega) ?_) ?_
      · intro i j a1 a2 a3
        unfold P_slices_symMergeCmpFunc_int_2_L3
        dsimp only
        refine ok_ite (fun hlt => ?_) fun hge => ok_some ⟨rfl, by omega⟩
        refine ok_ar' (by omega) fun x36 e36 => ok_lv' fun x37 e37 => ok_ck (by omega) (ok_lv' fun x38 e38 => ?_)
        rw [e37, half (by omega) (by omega)] at e38
        refine ok_ar' (by omega) fun x39 e39 => ok_ck ⟨by omega, by omega⟩ (ok_lv' fun x44 e44 => ok_ck ⟨by omega, by omega⟩ (ok_lv' fun x48 e48 => ?_))
        rw [e44, e48]
        refine ok_bd (hp.cmp ⟨by omega, by omega⟩ ⟨by omega, by omega⟩) fun r _ => ?_
        refine ok_bd (R := fun o => m ≤ o.1 ∧ o.1 ≤ o.2 ∧ o.2 ≤ b ∧ o.2 - o.1 < j - i) (ok_ite (fun _ => ok_ar' (by omega) fun x ex => ok_some ⟨by simp only; omega, by simp only; omega, by simp only; omega, by simp only; omega⟩) fun _ => ok_some ⟨by simp only; omega, by simp only; omega, by simp only; omega, by simp only; omega⟩) ?_
        rintro ⟨i', j'⟩ hh
        exact ok_some hh
      · intro i hi
        refine ok_bd (R := Kept data) ?_ fun r hr => ok_some hr
        refine ok_lp (fun s => a ≤ s.2 ∧ Kept data s.1) (fun s => (i - s.2).toNat) ⟨by simp, Kept.refl _⟩ (by simp only; omega) ?_
        rintro ⟨ys, j⟩ ⟨j0, hk⟩
        simp only at j0 hk
        have hyl := hk.2
        unfold P_slices_symMergeCmpFunc_int_2_L9
        dsimp only
        refine ok_ar' (by omega) fun x57 e57 => ok_ite (fun hlt => ?_) fun hge => ok_some hk
        refine ok_ar' (by omega) fun x65 e65 => ok_ar' (by omega) fun x68 e68 => ok_ck ⟨by omega, by omega⟩ (ok_lv' fun x70 e70 => ok_ck ⟨by omega, by omega⟩ (ok_lv' fun x74 e74 => ok_ck ⟨by omega, by omega⟩ (ok_lv' fun z1 ez1 => ?_)))
        have hz1 : z1.length = ys.length := by rw [ez1, stt_length]
        refine ok_ck ⟨by omega, by omega⟩ (ok_lv' fun z2 ez2 => ok_ar' (by omega) fun x ex => ok_some ⟨⟨by simp only; omega, ?_⟩, by simp only; omega⟩)
        simp only
        rw [ez2, ez1, e70, e74, show x68 = x65 by omega]
        exact hk.swap ⟨by omega, by omega⟩ ⟨by omega, by omega⟩
    · refine ok_bd (find_ok (lo := a) (hi := m) (by omega) (by omega) (by omega) (by omega) (by omega) ?_) ?_
      · intro i j a1 a2 a3
        unfold P_slices_symMergeCmpFunc_int_2_L15
        dsimp only
        refine ok_ite (fun hlt => ?_) fun hge => ok_some ⟨rfl, by omega⟩
        refine ok_ar' (by omega) fun x36 e36 => ok_lv' fun x37 e37 => ok_ck (by omega) (ok_lv' fun x38 e38 => ?_)
        rw [e37, half (by omega) (by omega)] at e38
        refine ok_ar' (by omega) fun x39 e39 => ok_ck ⟨by omega, by omega⟩ (ok_lv' fun x44 e44 => ok_ck ⟨by omega, by omega⟩ (ok_lv' fun x48 e48 => ?_))
        rw [e44, e48]
        refine ok_bd (hp.cmp ⟨by omega, by omega⟩ ⟨by omega, by omega⟩) fun r _ => ?_
        refine ok_bd (R := fun o => a ≤ o.1 ∧ o.1 ≤ o.2 ∧ o.2 ≤ m ∧ o.2 - o.1 < j - i) (ok_ite (fun _ => ok_ar' (by omega) fun x ex => ok_some ⟨by simp only; omega, by simp only; omega, by simp only; omega, by simp only; omega⟩) fun _ => ok_some ⟨by simp only; omega, by simp only; omega, by simp only; omega, by simp only; omega⟩) ?_
        rintro ⟨i', j'⟩ hh
        exact ok_some hh
      · intro i hi
        refine ok_bd (R := Kept data) ?_ fun r hr => ok_some hr
        refine ok_lp (fun s => s.2 ≤ m ∧ Kept data s.1) (fun s => (s.2 - i).toNat) ⟨by simp, Kept.refl _⟩ (by simp only; omega) ?_
        rintro ⟨ys, j⟩ ⟨j0, hk⟩
        simp only at j0 hk
        have hyl := hk.2
        unfold P_slices_symMergeCmpFunc_int_2_L21
        dsimp only
        refine ok_ite (fun hlt => ?_) fun hge => ok_some hk
        refine ok_ar' (by omega) fun x65 e65 => ok_ar' (by omega) fun x68 e68 => ok_ck ⟨by omega, by omega⟩ (ok_lv' fun x70 e70 => ok_ck ⟨by omega, by omega⟩ (ok_lv' fun x74 e74 => ok_ck ⟨by omega, by omega⟩ (ok_lv' fun z1 ez1 => ?_)))
        have hz1 : z1.length = ys.length := by rw [ez1, stt_length]
        refine ok_ck ⟨by omega, by omega⟩ (ok_lv' fun z2 ez2 => ok_ar' (by omega) fun x ex => ok_some ⟨⟨by simp only; omega, ?_⟩, by simp only; omega⟩)
        simp only
        rw [ez2, ez1, e70, e74, show x68 = x65 by omega]
        exact hk.swap ⟨by omega, by omega⟩ ⟨by omega, by omega⟩
    · refine ok_ar' (by omega) fun x131 e131 => ok_lv' fun x132 e132 => ok_ck (by omega) (ok_lv' fun x133 e133 => ?_)
      rw [e132, half (by omega) (by omega)] at e133
      refine ok_ar' (by omega) fun mid emid => ok_ar' (by omega) fun n en => ?_
      refine ok_bd (R := fun o => (mid < m ∧ o.1 = n - b ∧ o.2 = mid) ∨ (m ≤ mid ∧ o.1 = a ∧ o.2 = m)) (ok_ite (fun hlt => ok_ar' (by omega) fun x ex => ok_some (.inl ⟨hlt, ex, rfl⟩)) fun hge => ok_some (.inr ⟨by omega, rfl, rfl⟩)) ?_
      rintro ⟨s0, r0⟩ hs
      simp only at hs
      dsimp only
      refine ok_ar' (by omega) fun p ep => ?_
      refine ok_bd (find_ok (lo := s0) (hi := r0) (by omega) (by omega) (by omega) (by omega) (by omega) ?_) ?_
      · intro i j a1 a2 a3
        unfold P_slices_symMergeCmpFunc_int_2_L33
        dsimp only
        refine ok_ite (fun hlt => ?_) fun hge => ok_some ⟨rfl, by omega⟩
        refine ok_ar' (by omega) fun x36 e36 => ok_lv' fun x37 e37 => ok_ck (by omega) (ok_lv' fun x38 e38 => ?_)
        rw [e37, half (by omega) (by omega)] at e38
        refine ok_ar' (by omega) fun x39 e39 => ok_ar' (by omega) fun x40 e40 => ok_ck ⟨by omega, by omega⟩ (ok_lv' fun x44 e44 => ok_ck ⟨by omega, by omega⟩ (ok_lv' fun x48 e48 => ?_))
        rw [e44, e48]
        refine ok_bd (hp.cmp ⟨by omega, by omega⟩ ⟨by omega, by omega⟩) fun r _ => ?_
        refine ok_bd (R := fun o => s0 ≤ o.1 ∧ o.1 ≤ o.2 ∧ o.2 ≤ r0 ∧ o.2 - o.1 < j - i) (ok_ite (fun _ => ok_ar' (by omega) fun x ex => ok_some ⟨by simp only; omega, by simp only; omega, by simp only; omega, by simp only; omega⟩) fun _ => ok_some ⟨by simp only; omega, by simp only; omega, by simp only; omega, by simp only; omega⟩) ?_
        rintro ⟨i', j'⟩ hh
        exact ok_some hh
      intro s hs2
      refine ok_ar' (by omega) fun e ee => ok_lv' fun q1 eq1 => ?_
      refine ok_bd (R := Kept data) (ok_ite (fun hq => ?_) fun _ => ok_some (Kept.refl _)) fun d1 hd1 => ?_
      · rw [eq1] at hq
        simp only [Bool.and_eq_true, decide_eq_true_eq] at hq
        exact ok_bd (rotate_ok hf (by omega) (by omega) (by omega) (by omega)) fun r hr => ok_some hr
      have hl1 := hd1.2
      refine ok_lv' fun q2 eq2 => ok_bd (R := Kept data) (ok_ite (fun hq => ?_) fun _ => ok_some hd1) fun d2 hd2 => ?_
      · rw [eq2] at hq
        simp only [Bool.and_eq_true, decide_eq_true_eq] at hq
        exact ok_bd (ih d1 a s mid (hp.kept hd1) (by omega) (by omega) (by omega) (by omega) (by omega)) fun r hr => ok_some (hd1.trans hr)
      have hl2 := hd2.2
      refine ok_lv' fun q3 eq3 => ok_bd (R := Kept data) (ok_ite (fun hq => ?_) fun _ => ok_some hd2) fun d3 hd3 => ok_some hd3
      rw [eq3] at hq
      simp only [Bool.and_eq_true, decide_eq_true_eq] at hq
      exact ok_bd (ih d2 mid e b (hp.kept hd2) (by omega) (by omega) (by omega) (by omega) (by omega)) fun r hr => ok_some (hd2.trans hr)
theorem symM_ok {cm : List T_floor_Point} {data : List Int} {a m b : Int} (hp : Pts cm data) (h0 : 0 ≤ a) (h1 : a < m) (h2 : m < b) (h3 : b ≤ data.length) : Ok (P_slices_symMergeCmpFunc_int_2 data a m b cm) (Kept data) := by
  unfold P_slices_symMergeCmpFunc_int_2
  have := hp.few
  exact symMerge_ok fuel data a m b hp h0 h1 h2 h3 (by unfold fuel; omega)
end Go.Proofs.Ytnooiajahmichaa.X
