/- The stable sorts of near and tight: their results are permutations. Plain. -/
import Derived.Test.YtfkncjfpgflafaaDoorYP
import Derived.Test.YtfkncjfpgflafaaDoorGA
namespace Go.Proofs.YtfkncjfpgflafaaDoor.X
open Go Go.RowKit
set_option linter.unusedVariables false
set_option linter.unusedSimpArgs false
theorem swap_perm {xs : List Int} {i j : Int} (hi : inb i xs.length) (hj : inb j xs.length) : (stt (stt xs i (gt xs j)) j (gt xs i)).Perm xs := by
  unfold stt
  rw [gt_get hi, gt_get hj]
  exact List.set_set_perm (inb_lt hi) (inb_lt hj)
/-- What a sort keeps. -/
def Kept (xs ys : List Int) : Prop := ys.Perm xs ∧ ys.length = xs.length
theorem Kept.refl (xs : List Int) : Kept xs xs := ⟨List.Perm.refl _, rfl⟩
theorem Kept.trans {xs ys zs : List Int} (h : Kept xs ys) (k : Kept ys zs) : Kept xs zs := ⟨k.1.trans h.1, k.2.trans h.2⟩
theorem Kept.swap {xs ys : List Int} (h : Kept xs ys) {i j : Int} (hi : inb i ys.length) (hj : inb j ys.length) : Kept xs (stt (stt ys i (gt ys j)) j (gt ys i)) :=
  ⟨(swap_perm hi hj).trans h.1, by rw [stt_length, stt_length]; exact h.2⟩
namespace Nr
theorem swapRange_ok {data : List Int} {a b n : Int} (cm : List T_floor_Point) (h0 : 0 ≤ a) (h1 : a + n ≤ data.length) (h2 : 0 ≤ b) (h3 : b + n ≤ data.length) (hl : data.length ≤ 1000000) : Ok (P_slices_swapRangeCmpFunc_int_2 data a b n cm) (Kept data) := by
  unfold P_slices_swapRangeCmpFunc_int_2
  refine ok_bd (R := Kept data) ?_ fun r hr => ok_some hr
  refine ok_lp (fun s => 0 ≤ s.2 ∧ (0 ≤ n → s.2 ≤ n) ∧ Kept data s.1) (fun s => (n - s.2).toNat) ⟨by simp, by simp only; omega, Kept.refl _⟩ (by simp only; omega) ?_
  rintro ⟨ys, i⟩ ⟨i0, i1, hk⟩
  simp only at i0 i1 hk
  have hyl := hk.2
  unfold P_slices_swapRangeCmpFunc_int_2_L1
  dsimp only
  refine ok_ite (fun hlt => ?_) fun hge => ok_some hk
  refine ok_ar' (by omega) fun x19 e19 => ok_ar' (by omega) fun x23 e23 => ok_ar' (by omega) fun x27 e27 => ok_ck ⟨by omega, by omega⟩ (ok_lv' fun x29 e29 => ok_ar' (by omega) fun x33 e33 => ok_ck ⟨by omega, by omega⟩ (ok_lv' fun x35 e35 => ok_ck ⟨by omega, by omega⟩ (ok_lv' fun z1 ez1 => ?_)))
  have hz1 : z1.length = ys.length := by rw [ez1, stt_length]
  refine ok_ck ⟨by omega, by omega⟩ (ok_lv' fun z2 ez2 => ok_ar' (by omega) fun x ex => ok_some ⟨⟨by simp only; omega, by simp only; omega, ?_⟩, by simp only; omega⟩)
  simp only
  rw [ez2, ez1, e29, e35, show x27 = x23 by omega, show x33 = x19 by omega]
  exact hk.swap ⟨by omega, by omega⟩ ⟨by omega, by omega⟩
theorem cmp_ok {at_ : List T_floor_Point} {a b : Int} (ha : inb a at_.length) (hb : inb b at_.length) : Ok (P_legal_near_1 a b at_) (fun _ => True) := by
  unfold P_legal_near_1
  refine ok_ck ha (ok_lv (ok_ck hb (ok_lv (ok_bd (R := fun _ => True) ?_ fun _ _ => ok_some trivial))))
  unfold P_cmp_Compare_int
  refine ok_bd (R := fun _ => True) (by unfold P_cmp_isNaN_int; exact ok_some trivial) fun _ _ => ok_bd (R := fun _ => True) (by unfold P_cmp_isNaN_int; exact ok_some trivial) fun _ _ => ?_
  repeat' (first | exact ok_some trivial | refine ok_ite (fun _ => ?_) fun _ => ?_)
/-- Numbers that the compare function may be asked of. -/
structure Pts (at_ : List T_floor_Point) (data : List Int) : Prop where
  few : data.length ≤ 1000000
  num : ∀ x ∈ data, inb x at_.length
theorem Pts.kept {at_ : List T_floor_Point} {xs ys : List Int} (h : Pts at_ xs) (k : Kept xs ys) : Pts at_ ys := ⟨by rw [k.2]; exact h.few, fun x hx => h.num x (k.1.mem_iff.1 hx)⟩
theorem Pts.cmp {at_ : List T_floor_Point} {xs : List Int} (h : Pts at_ xs) {i j : Int} (hi : inb i xs.length) (hj : inb j xs.length) : Ok (P_legal_near_1 (gt xs i) (gt xs j) at_) (fun _ => True) := cmp_ok (h.num _ (gt_mem hi)) (h.num _ (gt_mem hj))
theorem insertion_ok {data : List Int} {a b : Int} {cm : List T_floor_Point} (hp : Pts cm data) (h0 : 0 ≤ a) (h1 : b ≤ data.length) (hb : a ≤ b) : Ok (P_slices_insertionSortCmpFunc_int_2 data a b cm) (Kept data) := by
  unfold P_slices_insertionSortCmpFunc_int_2
  have hf := hp.few
  refine ok_ar' (by omega) fun x11 e11 => ok_bd (R := Kept data) ?_ fun r hr => ok_some hr
  refine ok_lp (fun s => a + 1 ≤ s.2 ∧ s.2 ≤ b + 1 ∧ Kept data s.1) (fun s => (b - s.2).toNat) ⟨by simp only; omega, by simp only; omega, Kept.refl _⟩ (by simp only; omega) ?_
  rintro ⟨ys, i⟩ ⟨i0, i1, hk⟩
  simp only at i0 i1 hk
  unfold P_slices_insertionSortCmpFunc_int_2_L1
  dsimp only
  refine ok_ite (fun hlt => ?_) fun hge => ok_some hk
  refine ok_bd (R := Kept data) ?_ fun zs hz => ok_ar' (by omega) fun x ex => ok_some ⟨⟨by simp only; omega, by simp only; omega, hz⟩, by simp only; omega⟩
  refine ok_lp (fun s => a ≤ s.2 ∧ s.2 < b ∧ Kept data s.1) (fun s => (s.2 - a).toNat) ⟨by simp only; omega, by simp only; omega, hk⟩ (by simp only; omega) ?_
  rintro ⟨ys, j⟩ ⟨j0, j1, hk⟩
  simp only at j0 j1 hk
  have hyl := hk.2
  unfold P_slices_insertionSortCmpFunc_int_2_L4
  dsimp only
  refine ok_ck (fun _ => ⟨by omega, by omega⟩) (ok_lv' fun x26 e26 => ok_ck (fun _ => by omega) (ok_lv' fun x29 e29 => ok_ck (fun hq => ⟨by simp only [decide_eq_true_eq] at hq; omega, by omega⟩) (ok_lv' fun x31 e31 => ?_)))
  refine ok_bd (R := fun _ => True) (ok_gd (fun hq => ?_) fun _ => trivial) fun r hr => ok_lv' fun x34 e34 => ok_ite (fun hq => ?_) fun _ => ok_some hk
  · simp only [decide_eq_true_eq] at hq
    rw [e26, e31]
    exact (hp.kept hk).cmp ⟨by omega, by omega⟩ ⟨by omega, by omega⟩
  · rw [e34] at hq
    simp only [Bool.and_eq_true, decide_eq_true_eq] at hq
    refine ok_ar' (by omega) fun x41 e41 => ok_ar' (by omega) fun x44 e44 => ok_ck ⟨by omega, by omega⟩ (ok_lv' fun x46 e46 => ok_ck ⟨by omega, by omega⟩ (ok_lv' fun x50 e50 => ok_ck ⟨by omega, by omega⟩ (ok_lv' fun z1 ez1 => ?_)))
    have hz1 : z1.length = ys.length := by rw [ez1, stt_length]
    refine ok_ck ⟨by omega, by omega⟩ (ok_lv' fun z2 ez2 => ok_ar' (by omega) fun x ex => ok_some ⟨⟨by simp only; omega, by simp only; omega, ?_⟩, by simp only; omega⟩)
    simp only
    rw [ez2, ez1, e46, e50, show x44 = x41 by omega]
    exact hk.swap ⟨by omega, by omega⟩ ⟨by omega, by omega⟩
theorem rotate_ok {data : List Int} {a m b : Int} {cm : List T_floor_Point} (hf : data.length ≤ 1000000) (h0 : 0 ≤ a) (h1 : a < m) (h2 : m < b) (h3 : b ≤ data.length) : Ok (P_slices_rotateCmpFunc_int_2 data a m b cm) (Kept data) := by
  unfold P_slices_rotateCmpFunc_int_2
  refine ok_ar' (by omega) fun x14 e14 => ok_ar' (by omega) fun x17 e17 => ?_
  refine ok_bd (R := fun o => 0 < o.2 ∧ o.2 ≤ x14 ∧ o.2 ≤ x17 ∧ Kept data o.1) ?_ ?_
  · refine ok_lp (fun s => 0 < s.2.1 ∧ s.2.1 ≤ x14 ∧ 0 < s.2.2 ∧ s.2.2 ≤ x17 ∧ Kept data s.1) (fun s => (s.2.1 + s.2.2).toNat) ⟨by simp only; omega, by simp, by simp only; omega, by simp, Kept.refl _⟩ (by simp only; omega) ?_
    rintro ⟨ys, i, j⟩ ⟨i0, i1, j0, j1, hk⟩
    simp only at i0 i1 j0 j1 hk
    have hyl := hk.2
    unfold P_slices_rotateCmpFunc_int_2_L2
    dsimp only
    refine ok_ite (fun hne => ?_) fun heq => ok_some ⟨by simp only; omega, by simp only; omega, by simp only; omega, hk⟩
    refine ok_bd (R := fun o => 0 < o.2.1 ∧ o.2.1 ≤ x14 ∧ 0 < o.2.2 ∧ o.2.2 ≤ x17 ∧ Kept data o.1 ∧ o.2.1 + o.2.2 < i + j) ?_ ?_
    · refine ok_ite (fun hlt => ok_ar' (by omega) fun y1 d1 => ok_bd (swapRange_ok cm (by omega) (by omega) (by omega) (by omega) (by omega)) fun r hr => ok_ar' (by omega) fun y2 d2 => ok_some ⟨by simp only; omega, by simp only; omega, by simp only; omega, by simp only; omega, hk.trans hr, by simp only; omega⟩) fun hge => ?_
      exact ok_ar' (by omega) fun y1 d1 => ok_ar' (by omega) fun y2 d2 => ok_ar' (by omega) fun y3 d3 => ok_bd (swapRange_ok cm (by omega) (by omega) (by omega) (by omega) (by omega)) fun r hr => ok_ar' (by omega) fun y4 d4 => ok_some ⟨by simp only; omega, by simp only; omega, by simp only; omega, by simp only; omega, hk.trans hr, by simp only; omega⟩
    · rintro ⟨zs, i', j'⟩ ⟨a0, a1, a2, a3, a4, a5⟩
      simp only at a0 a1 a2 a3 a4 a5
      exact ok_some ⟨⟨a0, a1, a2, a3, a4⟩, by simp only; omega⟩
  · rintro ⟨ys, i⟩ ⟨i0, i1, i2, hk⟩
    simp only at i0 i1 i2 hk
    have hyl := hk.2
    exact ok_ar' (by omega) fun y1 d1 => ok_bd (swapRange_ok cm (by omega) (by omega) (by omega) (by omega) (by omega)) fun r hr => ok_some (hk.trans hr)
theorem half {x : Int} (h0 : 0 ≤ x) (h1 : x < 4611686018427387904) : shr .u64 (x % 18446744073709551616) 1 = x / 2 := by
  rw [Int.emod_eq_of_lt h0 (by omega)]
  show x.fdiv (2 ^ 1) = x / 2
  rw [Int.fdiv_eq_ediv_of_nonneg _ (by decide)]; rfl
/-- A search between two bounds. -/
theorem find_ok {body : (Int × Int) → Option ((Int × Int) ⊕ Int)} {i j lo hi : Int} (h0 : 0 ≤ lo) (h1 : lo ≤ i) (h2 : i ≤ j) (h3 : j ≤ hi) (h4 : hi ≤ 1000000)
    (h : ∀ i j, lo ≤ i → i ≤ j → j ≤ hi → Ok (body (i, j)) (fun o => match o with | .inl s => lo ≤ s.1 ∧ s.1 ≤ s.2 ∧ s.2 ≤ hi ∧ s.2 - s.1 < j - i | .inr r => r = i ∧ j ≤ i)) :
    Ok (lp body fuel (i, j)) (fun r => lo ≤ r ∧ r ≤ hi) := by
  refine ok_lp (fun s => lo ≤ s.1 ∧ s.1 ≤ s.2 ∧ s.2 ≤ hi) (fun s => (s.2 - s.1).toNat) ⟨h1, h2, h3⟩ (by simp only; omega) ?_
  rintro ⟨i, j⟩ ⟨a, b, c⟩
  simp only at a b c
  refine (h i j a b c).mono ?_
  rintro (⟨i', j'⟩ | r) h
  · simp only at h ⊢; omega
  · simp only at h ⊢; omega
theorem symMerge_ok {cm : List T_floor_Point} : ∀ (k : Nat) (data : List Int) (a m b : Int), Pts cm data → 0 ≤ a → a < m → m < b → b ≤ data.length → (b - a).toNat < k → Ok (rcf P_slices_symMergeCmpFunc_int_2_B k (data, a, m, b, cm)) (Kept data) := by
  intro k
  induction k with
  | zero => intro data a m b _ _ _ _ _ h; omega
  | succ k ih =>
    intro data a m b hp h0 h1 h2 h3 hk
    have hf := hp.few
    show Ok (P_slices_symMergeCmpFunc_int_2_B (rcf P_slices_symMergeCmpFunc_int_2_B k) (data, a, m, b, cm)) (Kept data)
    unfold P_slices_symMergeCmpFunc_int_2_B
    dsimp only
    refine ok_ar' (by omega) fun x27 e27 => ok_ite (fun hq => ?_) fun hq => ok_ar' (by omega) fun x79 e79 => ok_ite (fun hq2 => ?_) fun hq2 => ?_
    · refine ok_bd (find_ok (lo := m) (hi := b) (by omega) (by omega) (by omega) (by omega) (by omega) ?_) ?_
      · intro i j a1 a2 a3
        unfold P_slices_symMergeCmpFunc_int_2_L3
        dsimp only
        refine ok_ite (fun hlt => ?_) fun hge => ok_some ⟨rfl, by omega⟩
        refine ok_ar' (by omega) fun x36 e36 => ok_lv' fun x37 e37 => ok_ck (by omega) (ok_lv' fun x38 e38 => ?_)
        rw [e37, half (by omega) (by omega)] at e38
        refine ok_ar' (by omega) fun x39 e39 => ok_ck ⟨by omega, by omega⟩ (ok_lv' fun x44 e44 => ok_ck ⟨by omega, by omega⟩ (ok_lv' fun x48 e48 => ?_))
        rw [e44, e48]
        refine ok_bd (hp.cmp ⟨by omega, by omega⟩ ⟨by omega, by omega⟩) fun r _ => ?_
        refine ok_bd (R := fun o => m ≤ o.1 ∧ o.1 ≤ o.2 ∧ o.2 ≤ b ∧ o.2 - o.1 < j - i) (ok_ite (fun _ => ok_ar' (by omega) fun x ex => ok_some ⟨by simp only; omega, by simp only; omega, by simp only; omega, by simp only; omega⟩) fun _ => ok_some ⟨by simp only; omega, by simp only; omega, by simp only; omega, by simp only; omega⟩) ?_
        rintro ⟨i', j'⟩ hh
        exact ok_some hh
      · intro i hi
        refine ok_bd (R := Kept data) ?_ fun r hr => ok_some hr
        refine ok_lp (fun s => a ≤ s.2 ∧ Kept data s.1) (fun s => (i - s.2).toNat) ⟨by simp, Kept.refl _⟩ (by simp only; omega) ?_
        rintro ⟨ys, j⟩ ⟨j0, hk⟩
        simp only at j0 hk
        have hyl := hk.2
        unfold P_slices_symMergeCmpFunc_int_2_L9
        dsimp only
        refine ok_ar' (by omega) fun x57 e57 => ok_ite (fun hlt => ?_) fun hge => ok_some hk
        refine ok_ar' (by omega) fun x65 e65 => ok_ar' (by omega) fun x68 e68 => ok_ck ⟨by omega, by omega⟩ (ok_lv' fun x70 e70 => ok_ck ⟨by omega, by omega⟩ (ok_lv' fun x74 e74 => ok_ck ⟨by omega, by omega⟩ (ok_lv' fun z1 ez1 => ?_)))
        have hz1 : z1.length = ys.length := by rw [ez1, stt_length]
        refine ok_ck ⟨by omega, by omega⟩ (ok_lv' fun z2 ez2 => ok_ar' (by omega) fun x ex => ok_some ⟨⟨by simp only; omega, ?_⟩, by simp only; omega⟩)
        simp only
        rw [ez2, ez1, e70, e74, show x68 = x65 by omega]
        exact hk.swap ⟨by omega, by omega⟩ ⟨by omega, by omega⟩
    · refine ok_bd (find_ok (lo := a) (hi := m) (by omega) (by omega) (by omega) (by omega) (by omega) ?_) ?_
      · intro i j a1 a2 a3
        unfold P_slices_symMergeCmpFunc_int_2_L15
        dsimp only
        refine ok_ite (fun hlt => ?_) fun hge => ok_some ⟨rfl, by omega⟩
        refine ok_ar' (by omega) fun x36 e36 => ok_lv' fun x37 e37 => ok_ck (by omega) (ok_lv' fun x38 e38 => ?_)
        rw [e37, half (by omega) (by omega)] at e38
        refine ok_ar' (by omega) fun x39 e39 => ok_ck ⟨by omega, by omega⟩ (ok_lv' fun x44 e44 => ok_ck ⟨by omega, by omega⟩ (ok_lv' fun x48 e48 => ?_))
        rw [e44, e48]
        refine ok_bd (hp.cmp ⟨by omega, by omega⟩ ⟨by omega, by omega⟩) fun r _ => ?_
        refine ok_bd (R := fun o => a ≤ o.1 ∧ o.1 ≤ o.2 ∧ o.2 ≤ m ∧ o.2 - o.1 < j - i) (ok_ite (fun _ => ok_ar' (by omega) fun x ex => ok_some ⟨by simp only; omega, by simp only; omega, by simp only; omega, by simp only; omega⟩) fun _ => ok_some ⟨by simp only; omega, by simp only; omega, by simp only; omega, by simp only; omega⟩) ?_
        rintro ⟨i', j'⟩ hh
        exact ok_some hh
      · intro i hi
        refine ok_bd (R := Kept data) ?_ fun r hr => ok_some hr
        refine ok_lp (fun s => s.2 ≤ m ∧ Kept data s.1) (fun s => (s.2 - i).toNat) ⟨by simp, Kept.refl _⟩ (by simp only; omega) ?_
        rintro ⟨ys, j⟩ ⟨j0, hk⟩
        simp only at j0 hk
        have hyl := hk.2
        unfold P_slices_symMergeCmpFunc_int_2_L21
        dsimp only
        refine ok_ite (fun hlt => ?_) fun hge => ok_some hk
        refine ok_ar' (by omega) fun x65 e65 => ok_ar' (by omega) fun x68 e68 => ok_ck ⟨by omega, by omega⟩ (ok_lv' fun x70 e70 => ok_ck ⟨by omega, by omega⟩ (ok_lv' fun x74 e74 => ok_ck ⟨by omega, by omega⟩ (ok_lv' fun z1 ez1 => ?_)))
        have hz1 : z1.length = ys.length := by rw [ez1, stt_length]
        refine ok_ck ⟨by omega, by omega⟩ (ok_lv' fun z2 ez2 => ok_ar' (by omega) fun x ex => ok_some ⟨⟨by simp only; omega, ?_⟩, by simp only; omega⟩)
        simp only
        rw [ez2, ez1, e70, e74, show x68 = x65 by omega]
        exact hk.swap ⟨by omega, by omega⟩ ⟨by omega, by omega⟩
    · refine ok_ar' (by omega) fun x131 e131 => ok_lv' fun x132 e132 => ok_ck (by omega) (ok_lv' fun x133 e133 => ?_)
      rw [e132, half (by omega) (by omega)] at e133
      refine ok_ar' (by omega) fun mid emid => ok_ar' (by omega) fun n en => ?_
      refine ok_bd (R := fun o => (mid < m ∧ o.1 = n - b ∧ o.2 = mid) ∨ (m ≤ mid ∧ o.1 = a ∧ o.2 = m)) (ok_ite (fun hlt => ok_ar' (by omega) fun x ex => ok_some (.inl ⟨hlt, ex, rfl⟩)) fun hge => ok_some (.inr ⟨by omega, rfl, rfl⟩)) ?_
      rintro ⟨s0, r0⟩ hs
      simp only at hs
      dsimp only
      refine ok_ar' (by omega) fun p ep => ?_
      refine ok_bd (find_ok (lo := s0) (hi := r0) (by omega) (by omega) (by omega) (by omega) (by omega) ?_) ?_
      · intro i j a1 a2 a3
        unfold P_slices_symMergeCmpFunc_int_2_L33
        dsimp only
        refine ok_ite (fun hlt => ?_) fun hge => ok_some ⟨rfl, by omega⟩
        refine ok_ar' (by omega) fun x36 e36 => ok_lv' fun x37 e37 => ok_ck (by omega) (ok_lv' fun x38 e38 => ?_)
        rw [e37, half (by omega) (by omega)] at e38
        refine ok_ar' (by omega) fun x39 e39 => ok_ar' (by omega) fun x40 e40 => ok_ck ⟨by omega, by omega⟩ (ok_lv' fun x44 e44 => ok_ck ⟨by omega, by omega⟩ (ok_lv' fun x48 e48 => ?_))
        rw [e44, e48]
        refine ok_bd (hp.cmp ⟨by omega, by omega⟩ ⟨by omega, by omega⟩) fun r _ => ?_
        refine ok_bd (R := fun o => s0 ≤ o.1 ∧ o.1 ≤ o.2 ∧ o.2 ≤ r0 ∧ o.2 - o.1 < j - i) (ok_ite (fun _ => ok_ar' (by omega) fun x ex => ok_some ⟨by simp only; omega, by simp only; omega, by simp only; omega, by simp only; omega⟩) fun _ => ok_some ⟨by simp only; omega, by simp only; omega, by simp only; omega, by simp only; omega⟩) ?_
        rintro ⟨i', j'⟩ hh
        exact ok_some hh
      intro s hs2
      refine ok_ar' (by omega) fun e ee => ok_lv' fun q1 eq1 => ?_
      refine ok_bd (R := Kept data) (ok_ite (fun hq => ?_) fun _ => ok_some (Kept.refl _)) fun d1 hd1 => ?_
      · rw [eq1] at hq
        simp only [Bool.and_eq_true, decide_eq_true_eq] at hq
        exact ok_bd (rotate_ok hf (by omega) (by omega) (by omega) (by omega)) fun r hr => ok_some hr
      have hl1 := hd1.2
      refine ok_lv' fun q2 eq2 => ok_bd (R := Kept data) (ok_ite (fun hq => ?_) fun _ => ok_some hd1) fun d2 hd2 => ?_
      · rw [eq2] at hq
        simp only [Bool.and_eq_true, decide_eq_true_eq] at hq
        exact ok_bd (ih d1 a s mid (hp.kept hd1) (by omega) (by omega) (by omega) (by omega) (by omega)) fun r hr => ok_some (hd1.trans hr)
      have hl2 := hd2.2
      refine ok_lv' fun q3 eq3 => ok_bd (R := Kept data) (ok_ite (fun hq => ?_) fun _ => ok_some hd2) fun d3 hd3 => ok_some hd3
      rw [eq3] at hq
      simp only [Bool.and_eq_true, decide_eq_true_eq] at hq
      exact ok_bd (ih d2 mid e b (hp.kept hd2) (by omega) (by omega) (by omega) (by omega) (by omega)) fun r hr => ok_some (hd2.trans hr)
theorem symM_ok {cm : List T_floor_Point} {data : List Int} {a m b : Int} (hp : Pts cm data) (h0 : 0 ≤ a) (h1 : a < m) (h2 : m < b) (h3 : b ≤ data.length) : Ok (P_slices_symMergeCmpFunc_int_2 data a m b cm) (Kept data) := by
  unfold P_slices_symMergeCmpFunc_int_2
  have := hp.few
  exact symMerge_ok fuel data a m b hp h0 h1 h2 h3 (by unfold fuel; omega)
theorem stable_ok {cm : List T_floor_Point} {data : List Int} {n : Int} (hp : Pts cm data) (hn : n = data.length) : Ok (P_slices_stableCmpFunc_int_2 data n cm) (Kept data) := by
  unfold P_slices_stableCmpFunc_int_2
  have hf := hp.few
  refine ok_bd (R := fun o => 0 ≤ o.2 ∧ o.2 ≤ n ∧ Kept data o.1) ?_ ?_
  · refine ok_lp (fun s => 0 ≤ s.2.1 ∧ s.2.1 ≤ n ∧ s.2.2 = s.2.1 + 20 ∧ Kept data s.1) (fun s => (n + 20 - s.2.2).toNat) ⟨by simp, by simp only; omega, by simp, Kept.refl _⟩ (by simp only; omega) ?_
    rintro ⟨ys, a, b⟩ ⟨a0, a1, hb, hk⟩
    simp only at a0 a1 hb hk
    have hyl := hk.2
    unfold P_slices_stableCmpFunc_int_2_L2
    dsimp only
    refine ok_ite (fun hlt => ?_) fun hge => ok_some ⟨a0, a1, hk⟩
    exact ok_bd (insertion_ok (hp.kept hk) a0 (by omega) (by omega)) fun r hr => ok_ar' (by omega) fun x ex => ok_some ⟨⟨by simp only; omega, by simp only; omega, by simp only; omega, hk.trans hr⟩, by simp only; omega⟩
  rintro ⟨ys, a⟩ ⟨a0, a1, hk⟩
  simp only at a0 a1 hk
  dsimp only
  have hyl := hk.2
  refine ok_bd (insertion_ok (hp.kept hk) a0 (by omega) (by omega)) fun zs hz => ?_
  refine ok_bd (R := Kept data) ?_ fun r hr => ok_some hr
  refine ok_lp (fun s => 20 ≤ s.2 ∧ s.2 ≤ 2 * n + 20 ∧ Kept data s.1) (fun s => (2 * n + 20 - s.2).toNat) ⟨by simp, by simp only; omega, hk.trans hz⟩ (by simp only; omega) ?_
  rintro ⟨ws, bs⟩ ⟨b0, b1, hw⟩
  simp only at b0 b1 hw
  unfold P_slices_stableCmpFunc_int_2_L7
  dsimp only
  refine ok_ite (fun hlt => ?_) fun hge => ok_some hw
  refine ok_ar' (by omega) fun x32 e32 => ?_
  refine ok_bd (R := fun o => 0 ≤ o.2 ∧ o.2 ≤ n ∧ Kept data o.1) ?_ ?_
  · refine ok_lp (fun s => 0 ≤ s.2.1 ∧ s.2.1 ≤ n ∧ s.2.2 = s.2.1 + 2 * bs ∧ Kept data s.1) (fun s => (n + 2 * bs - s.2.2).toNat) ⟨by simp, by simp only; omega, by simp only; omega, hw⟩ (by simp only; omega) ?_
    rintro ⟨us, a, b⟩ ⟨a0, a1, hb, hu⟩
    simp only at a0 a1 hb hu
    have hul := hu.2
    unfold P_slices_stableCmpFunc_int_2_L9
    dsimp only
    refine ok_ite (fun hlt2 => ?_) fun hge => ok_some ⟨a0, a1, hu⟩
    exact ok_ar' (by omega) fun x40 e40 => ok_bd (symM_ok (hp.kept hu) a0 (by omega) (by omega) (by omega)) fun r hr => ok_ar' (by omega) fun x ex => ok_ar' (by omega) fun x2 ex2 => ok_some ⟨⟨by simp only; omega, by simp only; omega, by simp only; omega, hu.trans hr⟩, by simp only; omega⟩
  rintro ⟨us, a⟩ ⟨a0, a1, hu⟩
  simp only at a0 a1 hu
  dsimp only
  have hul := hu.2
  refine ok_ar' (by omega) fun x51 e51 => ok_bd (R := Kept data) (ok_ite (fun hq => ok_bd (symM_ok (hp.kept hu) a0 (by omega) (by omega) (by omega)) fun r hr => ok_some (hu.trans hr)) fun _ => ok_some hu) fun vs hv => ?_
  exact ok_ar' (by omega) fun x62 e62 => ok_some ⟨⟨by simp only; omega, by simp only; omega, hv⟩, by simp only; omega⟩
theorem sort_ok {cm : List T_floor_Point} {data : List Int} (hp : Pts cm data) : Ok (P_slices_SortStableFunc_int_int_2 data cm) (Kept data) := by
  unfold P_slices_SortStableFunc_int_int_2
  exact ok_bd (stable_ok hp rfl) fun r hr => ok_some hr
end Nr
namespace Ti
theorem swapRange_ok {data : List Int} {a b n : Int} (cm : List Int) (h0 : 0 ≤ a) (h1 : a + n ≤ data.length) (h2 : 0 ≤ b) (h3 : b + n ≤ data.length) (hl : data.length ≤ 1000000) : Ok (P_slices_swapRangeCmpFunc_int_3 data a b n cm) (Kept data) := by
  unfold P_slices_swapRangeCmpFunc_int_3
  refine ok_bd (R := Kept data) ?_ fun r hr => ok_some hr
  refine ok_lp (fun s => 0 ≤ s.2 ∧ (0 ≤ n → s.2 ≤ n) ∧ Kept data s.1) (fun s => (n - s.2).toNat) ⟨by simp, by simp only; omega, Kept.refl _⟩ (by simp only; omega) ?_
  rintro ⟨ys, i⟩ ⟨i0, i1, hk⟩
  simp only at i0 i1 hk
  have hyl := hk.2
  unfold P_slices_swapRangeCmpFunc_int_3_L1
  dsimp only
  refine ok_ite (fun hlt => ?_) fun hge => ok_some hk
  refine ok_ar' (by omega) fun x19 e19 => ok_ar' (by omega) fun x23 e23 => ok_ar' (by omega) fun x27 e27 => ok_ck ⟨by omega, by omega⟩ (ok_lv' fun x29 e29 => ok_ar' (by omega) fun x33 e33 => ok_ck ⟨by omega, by omega⟩ (ok_lv' fun x35 e35 => ok_ck ⟨by omega, by omega⟩ (ok_lv' fun z1 ez1 => ?_)))
  have hz1 : z1.length = ys.length := by rw [ez1, stt_length]
  refine ok_ck ⟨by omega, by omega⟩ (ok_lv' fun z2 ez2 => ok_ar' (by omega) fun x ex => ok_some ⟨⟨by simp only; omega, by simp only; omega, ?_⟩, by simp only; omega⟩)
  simp only
  rw [ez2, ez1, e29, e35, show x27 = x23 by omega, show x33 = x19 by omega]
  exact hk.swap ⟨by omega, by omega⟩ ⟨by omega, by omega⟩
theorem cmp_ok {at_ : List Int} {a b : Int} (ha : inb a at_.length) (hb : inb b at_.length) : Ok (P_legal_tight_1 a b at_) (fun _ => True) := by
  unfold P_legal_tight_1
  refine ok_ck hb (ok_lv (ok_ck ha (ok_lv (ok_bd (R := fun _ => True) ?_ fun _ _ => ok_some trivial))))
  unfold P_cmp_Compare_int
  refine ok_bd (R := fun _ => True) (by unfold P_cmp_isNaN_int; exact ok_some trivial) fun _ _ => ok_bd (R := fun _ => True) (by unfold P_cmp_isNaN_int; exact ok_some trivial) fun _ _ => ?_
  repeat' (first | exact ok_some trivial | refine ok_ite (fun _ => ?_) fun _ => ?_)
/-- Numbers that the compare function may be asked of. -/
structure Pts (at_ : List Int) (data : List Int) : Prop where
  few : data.length ≤ 1000000
  num : ∀ x ∈ data, inb x at_.length
theorem Pts.kept {at_ : List Int} {xs ys : List Int} (h : Pts at_ xs) (k : Kept xs ys) : Pts at_ ys := ⟨by rw [k.2]; exact h.few, fun x hx => h.num x (k.1.mem_iff.1 hx)⟩
theorem Pts.cmp {at_ : List Int} {xs : List Int} (h : Pts at_ xs) {i j : Int} (hi : inb i xs.length) (hj : inb j xs.length) : Ok (P_legal_tight_1 (gt xs i) (gt xs j) at_) (fun _ => True) := cmp_ok (h.num _ (gt_mem hi)) (h.num _ (gt_mem hj))
theorem insertion_ok {data : List Int} {a b : Int} {cm : List Int} (hp : Pts cm data) (h0 : 0 ≤ a) (h1 : b ≤ data.length) (hb : a ≤ b) : Ok (P_slices_insertionSortCmpFunc_int_3 data a b cm) (Kept data) := by
  unfold P_slices_insertionSortCmpFunc_int_3
  have hf := hp.few
  refine ok_ar' (by omega) fun x11 e11 => ok_bd (R := Kept data) ?_ fun r hr => ok_some hr
  refine ok_lp (fun s => a + 1 ≤ s.2 ∧ s.2 ≤ b + 1 ∧ Kept data s.1) (fun s => (b - s.2).toNat) ⟨by simp only; omega, by simp only; omega, Kept.refl _⟩ (by simp only; omega) ?_
  rintro ⟨ys, i⟩ ⟨i0, i1, hk⟩
  simp only at i0 i1 hk
  unfold P_slices_insertionSortCmpFunc_int_3_L1
  dsimp only
  refine ok_ite (fun hlt => ?_) fun hge => ok_some hk
  refine ok_bd (R := Kept data) ?_ fun zs hz => ok_ar' (by omega) fun x ex => ok_some ⟨⟨by simp only; omega, by simp only; omega, hz⟩, by simp only; omega⟩
  refine ok_lp (fun s => a ≤ s.2 ∧ s.2 < b ∧ Kept data s.1) (fun s => (s.2 - a).toNat) ⟨by simp only; omega, by simp only; omega, hk⟩ (by simp only; omega) ?_
  rintro ⟨ys, j⟩ ⟨j0, j1, hk⟩
  simp only at j0 j1 hk
  have hyl := hk.2
  unfold P_slices_insertionSortCmpFunc_int_3_L4
  dsimp only
  refine ok_ck (fun _ => ⟨by omega, by omega⟩) (ok_lv' fun x26 e26 => ok_ck (fun _ => by omega) (ok_lv' fun x29 e29 => ok_ck (fun hq => ⟨by simp only [decide_eq_true_eq] at hq; omega, by omega⟩) (ok_lv' fun x31 e31 => ?_)))
  refine ok_bd (R := fun _ => True) (ok_gd (fun hq => ?_) fun _ => trivial) fun r hr => ok_lv' fun x34 e34 => ok_ite (fun hq => ?_) fun _ => ok_some hk
  · simp only [decide_eq_true_eq] at hq
    rw [e26, e31]
    exact (hp.kept hk).cmp ⟨by omega, by omega⟩ ⟨by omega, by omega⟩
  · rw [e34] at hq
    simp only [Bool.and_eq_true, decide_eq_true_eq] at hq
    refine ok_ar' (by omega) fun x41 e41 => ok_ar' (by omega) fun x44 e44 => ok_ck ⟨by omega, by omega⟩ (ok_lv' fun x46 e46 => ok_ck ⟨by omega, by omega⟩ (ok_lv' fun x50 e50 => ok_ck ⟨by omega, by omega⟩ (ok_lv' fun z1 ez1 => ?_)))
    have hz1 : z1.length = ys.length := by rw [ez1, stt_length]
    refine ok_ck ⟨by omega, by omega⟩ (ok_lv' fun z2 ez2 => ok_ar' (by omega) fun x ex => ok_some ⟨⟨by simp only; omega, by simp only; omega, ?_⟩, by simp only; omega⟩)
    simp only
    rw [ez2, ez1, e46, e50, show x44 = x41 by omega]
    exact hk.swap ⟨by omega, by omega⟩ ⟨by omega, by omega⟩
theorem rotate_ok {data : List Int} {a m b : Int} {cm : List Int} (hf : data.length ≤ 1000000) (h0 : 0 ≤ a) (h1 : a < m) (h2 : m < b) (h3 : b ≤ data.length) : Ok (P_slices_rotateCmpFunc_int_3 data a m b cm) (Kept data) := by
  unfold P_slices_rotateCmpFunc_int_3
  refine ok_ar' (by omega) fun x14 e14 => ok_ar' (by omega) fun x17 e17 => ?_
  refine ok_bd (R := fun o => 0 < o.2 ∧ o.2 ≤ x14 ∧ o.2 ≤ x17 ∧ Kept data o.1) ?_ ?_
  · refine ok_lp (fun s => 0 < s.2.1 ∧ s.2.1 ≤ x14 ∧ 0 < s.2.2 ∧ s.2.2 ≤ x17 ∧ Kept data s.1) (fun s => (s.2.1 + s.2.2).toNat) ⟨by simp only; omega, by simp, by simp only; omega, by simp, Kept.refl _⟩ (by simp only; omega) ?_
    rintro ⟨ys, i, j⟩ ⟨i0, i1, j0, j1, hk⟩
    simp only at i0 i1 j0 j1 hk
    have hyl := hk.2
    unfold P_slices_rotateCmpFunc_int_3_L2
    dsimp only
    refine ok_ite (fun hne => ?_) fun heq => ok_some ⟨by simp only; omega, by simp only; omega, by simp only; omega, hk⟩
    refine ok_bd (R := fun o => 0 < o.2.1 ∧ o.2.1 ≤ x14 ∧ 0 < o.2.2 ∧ o.2.2 ≤ x17 ∧ Kept data o.1 ∧ o.2.1 + o.2.2 < i + j) ?_ ?_
    · refine ok_ite (fun hlt => ok_ar' (by omega) fun y1 d1 => ok_bd (swapRange_ok cm (by omega) (by omega) (by omega) (by omega) (by omega)) fun r hr => ok_ar' (by omega) fun y2 d2 => ok_some ⟨by simp only; omega, by simp only; omega, by simp only; omega, by simp only; omega, hk.trans hr, by simp only; omega⟩) fun hge => ?_
      exact ok_ar' (by omega) fun y1 d1 => ok_ar' (by omega) fun y2 d2 => ok_ar' (by omega) fun y3 d3 => ok_bd (swapRange_ok cm (by omega) (by omega) (by omega) (by omega) (by omega)) fun r hr => ok_ar' (by omega) fun y4 d4 => ok_some ⟨by simp only; omega, by simp only; omega, by simp only; omega, by simp only; omega, hk.trans hr, by simp only; omega⟩
    · rintro ⟨zs, i', j'⟩ ⟨a0, a1, a2, a3, a4, a5⟩
      simp only at a0 a1 a2 a3 a4 a5
      exact ok_some ⟨⟨a0, a1, a2, a3, a4⟩, by simp only; omega⟩
  · rintro ⟨ys, i⟩ ⟨i0, i1, i2, hk⟩
    simp only at i0 i1 i2 hk
    have hyl := hk.2
    exact ok_ar' (by omega) fun y1 d1 => ok_bd (swapRange_ok cm (by omega) (by omega) (by omega) (by omega) (by omega)) fun r hr => ok_some (hk.trans hr)
theorem half {x : Int} (h0 : 0 ≤ x) (h1 : x < 4611686018427387904) : shr .u64 (x % 18446744073709551616) 1 = x / 2 := by
  rw [Int.emod_eq_of_lt h0 (by omega)]
  show x.fdiv (2 ^ 1) = x / 2
  rw [Int.fdiv_eq_ediv_of_nonneg _ (by decide)]; rfl
/-- A search between two bounds. -/
theorem find_ok {body : (Int × Int) → Option ((Int × Int) ⊕ Int)} {i j lo hi : Int} (h0 : 0 ≤ lo) (h1 : lo ≤ i) (h2 : i ≤ j) (h3 : j ≤ hi) (h4 : hi ≤ 1000000)
    (h : ∀ i j, lo ≤ i → i ≤ j → j ≤ hi → Ok (body (i, j)) (fun o => match o with | .inl s => lo ≤ s.1 ∧ s.1 ≤ s.2 ∧ s.2 ≤ hi ∧ s.2 - s.1 < j - i | .inr r => r = i ∧ j ≤ i)) :
    Ok (lp body fuel (i, j)) (fun r => lo ≤ r ∧ r ≤ hi) := by
  refine ok_lp (fun s => lo ≤ s.1 ∧ s.1 ≤ s.2 ∧ s.2 ≤ hi) (fun s => (s.2 - s.1).toNat) ⟨h1, h2, h3⟩ (by simp only; omega) ?_
  rintro ⟨i, j⟩ ⟨a, b, c⟩
  simp only at a b c
  refine (h i j a b c).mono ?_
  rintro (⟨i', j'⟩ | r) h
  · simp only at h ⊢; omega
  · simp only at h ⊢; omega
theorem symMerge_ok {cm : List Int} : ∀ (k : Nat) (data : List Int) (a m b : Int), Pts cm data → 0 ≤ a → a < m → m < b → b ≤ data.length → (b - a).toNat < k → Ok (rcf P_slices_symMergeCmpFunc_int_3_B k (data, a, m, b, cm)) (Kept data) := by
  intro k
  induction k with
  | zero => intro data a m b _ _ _ _ _ h; omega
  | succ k ih =>
    intro data a m b hp h0 h1 h2 h3 hk
    have hf := hp.few
    show Ok (P_slices_symMergeCmpFunc_int_3_B (rcf P_slices_symMergeCmpFunc_int_3_B k) (data, a, m, b, cm)) (Kept data)
    unfold P_slices_symMergeCmpFunc_int_3_B
    dsimp only
    refine ok_ar' (by omega) fun x27 e27 => ok_ite (fun hq => ?_) fun hq => ok_ar' (by omega) fun x79 e79 => ok_ite (fun hq2 => ?_) fun hq2 => ?_
    · refine ok_bd (find_ok (lo := m) (hi := b) (by omega) (by omega) (by omega) (by omega) (by omega) ?_) ?_
      · intro i j a1 a2 a3
        unfold P_slices_symMergeCmpFunc_int_3_L3
        dsimp only
        refine ok_ite (fun hlt => ?_) fun hge => ok_some ⟨rfl, by omega⟩
        refine ok_ar' (by omega) fun x36 e36 => ok_lv' fun x37 e37 => ok_ck (by omega) (ok_lv' fun x38 e38 => ?_)
        rw [e37, half (by omega) (by omega)] at e38
        refine ok_ar' (by omega) fun x39 e39 => ok_ck ⟨by omega, by omega⟩ (ok_lv' fun x44 e44 => ok_ck ⟨by omega, by omega⟩ (ok_lv' fun x48 e48 => ?_))
        rw [e44, e48]
        refine ok_bd (hp.cmp ⟨by omega, by omega⟩ ⟨by omega, by omega⟩) fun r _ => ?_
        refine ok_bd (R := fun o => m ≤ o.1 ∧ o.1 ≤ o.2 ∧ o.2 ≤ b ∧ o.2 - o.1 < j - i) (ok_ite (fun _ => ok_ar' (by omega) fun x ex => ok_some ⟨by simp only; omega, by simp only; omega, by simp only; omega, by simp only; omega⟩) fun _ => ok_some ⟨by simp only; omega, by simp only; omega, by simp only; omega, by simp only; omega⟩) ?_
        rintro ⟨i', j'⟩ hh
        exact ok_some hh
      · intro i hi
        refine ok_bd (R := Kept data) ?_ fun r hr => ok_some hr
        refine ok_lp (fun s => a ≤ s.2 ∧ Kept data s.1) (fun s => (i - s.2).toNat) ⟨by simp, Kept.refl _⟩ (by simp only; omega) ?_
        rintro ⟨ys, j⟩ ⟨j0, hk⟩
        simp only at j0 hk
        have hyl := hk.2
        unfold P_slices_symMergeCmpFunc_int_3_L9
        dsimp only
        refine ok_ar' (by omega) fun x57 e57 => ok_ite (fun hlt => ?_) fun hge => ok_some hk
        refine ok_ar' (by omega) fun x65 e65 => ok_ar' (by omega) fun x68 e68 => ok_ck ⟨by omega, by omega⟩ (ok_lv' fun x70 e70 => ok_ck ⟨by omega, by omega⟩ (ok_lv' fun x74 e74 => ok_ck ⟨by omega, by omega⟩ (ok_lv' fun z1 ez1 => ?_)))
        have hz1 : z1.length = ys.length := by rw [ez1, stt_length]
        refine ok_ck ⟨by omega, by omega⟩ (ok_lv' fun z2 ez2 => ok_ar' (by omega) fun x ex => ok_some ⟨⟨by simp only; omega, ?_⟩, by simp only; omega⟩)
        simp only
        rw [ez2, ez1, e70, e74, show x68 = x65 by omega]
        exact hk.swap ⟨by omega, by omega⟩ ⟨by omega, by omega⟩
    · refine ok_bd (find_ok (lo := a) (hi := m) (by omega) (by omega) (by omega) (by omega) (by omega) ?_) ?_
      · intro i j a1 a2 a3
        unfold P_slices_symMergeCmpFunc_int_3_L15
        dsimp only
        refine ok_ite (fun hlt => ?_) fun hge => ok_some ⟨rfl, by omega⟩
        refine ok_ar' (by omega) fun x36 e36 => ok_lv' fun x37 e37 => ok_ck (by omega) (ok_lv' fun x38 e38 => ?_)
        rw [e37, half (by omega) (by omega)] at e38
        refine ok_ar' (by omega) fun x39 e39 => ok_ck ⟨by omega, by omega⟩ (ok_lv' fun x44 e44 => ok_ck ⟨by omega, by omega⟩ (ok_lv' fun x48 e48 => ?_))
        rw [e44, e48]
        refine ok_bd (hp.cmp ⟨by omega, by omega⟩ ⟨by omega, by omega⟩) fun r _ => ?_
        refine ok_bd (R := fun o => a ≤ o.1 ∧ o.1 ≤ o.2 ∧ o.2 ≤ m ∧ o.2 - o.1 < j - i) (ok_ite (fun _ => ok_ar' (by omega) fun x ex => ok_some ⟨by simp only; omega, by simp only; omega, by simp only; omega, by simp only; omega⟩) fun _ => ok_some ⟨by simp only; omega, by simp only; omega, by simp only; omega, by simp only; omega⟩) ?_
        rintro ⟨i', j'⟩ hh
        exact ok_some hh
      · intro i hi
        refine ok_bd (R := Kept data) ?_ fun r hr => ok_some hr
        refine ok_lp (fun s => s.2 ≤ m ∧ Kept data s.1) (fun s => (s.2 - i).toNat) ⟨by simp, Kept.refl _⟩ (by simp only; omega) ?_
        rintro ⟨ys, j⟩ ⟨j0, hk⟩
        simp only at j0 hk
        have hyl := hk.2
        unfold P_slices_symMergeCmpFunc_int_3_L21
        dsimp only
        refine ok_ite (fun hlt => ?_) fun hge => ok_some hk
        refine ok_ar' (by omega) fun x65 e65 => ok_ar' (by omega) fun x68 e68 => ok_ck ⟨by omega, by omega⟩ (ok_lv' fun x70 e70 => ok_ck ⟨by omega, by omega⟩ (ok_lv' fun x74 e74 => ok_ck ⟨by omega, by omega⟩ (ok_lv' fun z1 ez1 => ?_)))
        have hz1 : z1.length = ys.length := by rw [ez1, stt_length]
        refine ok_ck ⟨by omega, by omega⟩ (ok_lv' fun z2 ez2 => ok_ar' (by omega) fun x ex => ok_some ⟨⟨by simp only; omega, ?_⟩, by simp only; omega⟩)
        simp only
        rw [ez2, ez1, e70, e74, show x68 = x65 by omega]
        exact hk.swap ⟨by omega, by omega⟩ ⟨by omega, by omega⟩
    · refine ok_ar' (by omega) fun x131 e131 => ok_lv' fun x132 e132 => ok_ck (by omega) (ok_lv' fun x133 e133 => ?_)
      rw [e132, half (by omega) (by omega)] at e133
      refine ok_ar' (by omega) fun mid emid => ok_ar' (by omega) fun n en => ?_
      refine ok_bd (R := fun o => (mid < m ∧ o.1 = n - b ∧ o.2 = mid) ∨ (m ≤ mid ∧ o.1 = a ∧ o.2 = m)) (ok_ite (fun hlt => ok_ar' (by omega) fun x ex => ok_some (.inl ⟨hlt, ex, rfl⟩)) fun hge => ok_some (.inr ⟨by omega, rfl, rfl⟩)) ?_
      rintro ⟨s0, r0⟩ hs
      simp only at hs
      dsimp only
      refine ok_ar' (by omega) fun p ep => ?_
      refine ok_bd (find_ok (lo := s0) (hi := r0) (by omega) (by omega) (by omega) (by omega) (by omega) ?_) ?_
      · intro i j a1 a2 a3
        unfold P_slices_symMergeCmpFunc_int_3_L33
        dsimp only
        refine ok_ite (fun hlt => ?_) fun hge => ok_some ⟨rfl, by omega⟩
        refine ok_ar' (by omega) fun x36 e36 => ok_lv' fun x37 e37 => ok_ck (by omega) (ok_lv' fun x38 e38 => ?_)
        rw [e37, half (by omega) (by omega)] at e38
        refine ok_ar' (by omega) fun x39 e39 => ok_ar' (by omega) fun x40 e40 => ok_ck ⟨by omega, by omega⟩ (ok_lv' fun x44 e44 => ok_ck ⟨by omega, by omega⟩ (ok_lv' fun x48 e48 => ?_))
        rw [e44, e48]
        refine ok_bd (hp.cmp ⟨by omega, by omega⟩ ⟨by omega, by omega⟩) fun r _ => ?_
        refine ok_bd (R := fun o => s0 ≤ o.1 ∧ o.1 ≤ o.2 ∧ o.2 ≤ r0 ∧ o.2 - o.1 < j - i) (ok_ite (fun _ => ok_ar' (by omega) fun x ex => ok_some ⟨by simp only; omega, by simp only; omega, by simp only; omega, by simp only; omega⟩) fun _ => ok_some ⟨by simp only; omega, by simp only; omega, by simp only; omega, by simp only; omega⟩) ?_
        rintro ⟨i', j'⟩ hh
        exact ok_some hh
      intro s hs2
      refine ok_ar' (by omega) fun e ee => ok_lv' fun q1 eq1 => ?_
      refine ok_bd (R := Kept data) (ok_ite (fun hq => ?_) fun _ => ok_some (Kept.refl _)) fun d1 hd1 => ?_
      · rw [eq1] at hq
        simp only [Bool.and_eq_true, decide_eq_true_eq] at hq
        exact ok_bd (rotate_ok hf (by omega) (by omega) (by omega) (by omega)) fun r hr => ok_some hr
      have hl1 := hd1.2
      refine ok_lv' fun q2 eq2 => ok_bd (R := Kept data) (ok_ite (fun hq => ?_) fun _ => ok_some hd1) fun d2 hd2 => ?_
      · rw [eq2] at hq
        simp only [Bool.and_eq_true, decide_eq_true_eq] at hq
        exact ok_bd (ih d1 a s mid (hp.kept hd1) (by omega) (by omega) (by omega) (by omega) (by omega)) fun r hr => ok_some (hd1.trans hr)
      have hl2 := hd2.2
      refine ok_lv' fun q3 eq3 => ok_bd (R := Kept data) (ok_ite (fun hq => ?_) fun _ => ok_some hd2) fun d3 hd3 => ok_some hd3
      rw [eq3] at hq
      simp only [Bool.and_eq_true, decide_eq_true_eq] at hq
      exact ok_bd (ih d2 mid e b (hp.kept hd2) (by omega) (by omega) (by omega) (by omega) (by omega)) fun r hr => ok_some (hd2.trans hr)
theorem symM_ok {cm : List Int} {data : List Int} {a m b : Int} (hp : Pts cm data) (h0 : 0 ≤ a) (h1 : a < m) (h2 : m < b) (h3 : b ≤ data.length) : Ok (P_slices_symMergeCmpFunc_int_3 data a m b cm) (Kept data) := by
  unfold P_slices_symMergeCmpFunc_int_3
  have := hp.few
  exact symMerge_ok fuel data a m b hp h0 h1 h2 h3 (by unfold fuel; omega)
theorem stable_ok {cm : List Int} {data : List Int} {n : Int} (hp : Pts cm data) (hn : n = data.length) : Ok (P_slices_stableCmpFunc_int_3 data n cm) (Kept data) := by
  unfold P_slices_stableCmpFunc_int_3
  have hf := hp.few
  refine ok_bd (R := fun o => 0 ≤ o.2 ∧ o.2 ≤ n ∧ Kept data o.1) ?_ ?_
  · refine ok_lp (fun s => 0 ≤ s.2.1 ∧ s.2.1 ≤ n ∧ s.2.2 = s.2.1 + 20 ∧ Kept data s.1) (fun s => (n + 20 - s.2.2).toNat) ⟨by simp, by simp only; omega, by simp, Kept.refl _⟩ (by simp only; omega) ?_
    rintro ⟨ys, a, b⟩ ⟨a0, a1, hb, hk⟩
    simp only at a0 a1 hb hk
    have hyl := hk.2
    unfold P_slices_stableCmpFunc_int_3_L2
    dsimp only
    refine ok_ite (fun hlt => ?_) fun hge => ok_some ⟨a0, a1, hk⟩
    exact ok_bd (insertion_ok (hp.kept hk) a0 (by omega) (by omega)) fun r hr => ok_ar' (by omega) fun x ex => ok_some ⟨⟨by simp only; omega, by simp only; omega, by simp only; omega, hk.trans hr⟩, by simp only; omega⟩
  rintro ⟨ys, a⟩ ⟨a0, a1, hk⟩
  simp only at a0 a1 hk
  dsimp only
  have hyl := hk.2
  refine ok_bd (insertion_ok (hp.kept hk) a0 (by omega) (by omega)) fun zs hz => ?_
  refine ok_bd (R := Kept data) ?_ fun r hr => ok_some hr
  refine ok_lp (fun s => 20 ≤ s.2 ∧ s.2 ≤ 2 * n + 20 ∧ Kept data s.1) (fun s => (2 * n + 20 - s.2).toNat) ⟨by simp, by simp only; omega, hk.trans hz⟩ (by simp only; omega) ?_
  rintro ⟨ws, bs⟩ ⟨b0, b1, hw⟩
  simp only at b0 b1 hw
  unfold P_slices_stableCmpFunc_int_3_L7
  dsimp only
  refine ok_ite (fun hlt => ?_) fun hge => ok_some hw
  refine ok_ar' (by omega) fun x32 e32 => ?_
  refine ok_bd (R := fun o => 0 ≤ o.2 ∧ o.2 ≤ n ∧ Kept data o.1) ?_ ?_
  · refine ok_lp (fun s => 0 ≤ s.2.1 ∧ s.2.1 ≤ n ∧ s.2.2 = s.2.1 + 2 * bs ∧ Kept data s.1) (fun s => (n + 2 * bs - s.2.2).toNat) ⟨by simp, by simp only; omega, by simp only; omega, hw⟩ (by simp only; omega) ?_
    rintro ⟨us, a, b⟩ ⟨a0, a1, hb, hu⟩
    simp only at a0 a1 hb hu
    have hul := hu.2
    unfold P_slices_stableCmpFunc_int_3_L9
    dsimp only
    refine ok_ite (fun hlt2 => ?_) fun hge => ok_some ⟨a0, a1, hu⟩
    exact ok_ar' (by omega) fun x40 e40 => ok_bd (symM_ok (hp.kept hu) a0 (by omega) (by omega) (by omega)) fun r hr => ok_ar' (by omega) fun x ex => ok_ar' (by omega) fun x2 ex2 => ok_some ⟨⟨by simp only; omega, by simp only; omega, by simp only; omega, hu.trans hr⟩, by simp only; omega⟩
  rintro ⟨us, a⟩ ⟨a0, a1, hu⟩
  simp only at a0 a1 hu
  dsimp only
  have hul := hu.2
  refine ok_ar' (by omega) fun x51 e51 => ok_bd (R := Kept data) (ok_ite (fun hq => ok_bd (symM_ok (hp.kept hu) a0 (by omega) (by omega) (by omega)) fun r hr => ok_some (hu.trans hr)) fun _ => ok_some hu) fun vs hv => ?_
  exact ok_ar' (by omega) fun x62 e62 => ok_some ⟨⟨by simp only; omega, by simp only; omega, hv⟩, by simp only; omega⟩
theorem sort_ok {cm : List Int} {data : List Int} (hp : Pts cm data) : Ok (P_slices_SortStableFunc_int_int_3 data cm) (Kept data) := by
  unfold P_slices_SortStableFunc_int_int_3
  exact ok_bd (stable_ok hp rfl) fun r hr => ok_some hr
end Ti
end Go.Proofs.YtfkncjfpgflafaaDoor.X
