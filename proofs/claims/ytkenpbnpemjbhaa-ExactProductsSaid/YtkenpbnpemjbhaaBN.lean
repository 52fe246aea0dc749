/- ExactProducts: determinants of products, of exchanged rows; ranks. Plain. -/
import Derived.Test.YtkenpbnpemjbhaaBJ
namespace Go.Proofs.Ytkenpbnpemjbhaa.X
open Go Go.RowKit
set_option linter.unusedVariables false
set_option linter.unusedSimpArgs false
set_option linter.unusedSectionVars false
theorem check2 (a : List (List Int)) : P_exact_CheckMatrix_2 a = P_exact_CheckMatrix a := by unfold P_exact_CheckMatrix_2 P_exact_CheckMatrix; rfl
theorem square2 (a : List (List Int)) : P_exact_square_2 a = P_exact_square a := by unfold P_exact_square_2 P_exact_square; rw [check2]
theorem begin2 (a m : List (List Int)) : P_exact_begin_2 a m = P_exact_begin a m := by unfold P_exact_begin_2 P_exact_begin; rfl
theorem det2 (a : List (List Int)) : P_exact_Det_2 a = P_exact_Det a := by unfold P_exact_Det_2 P_exact_Det; rw [square2, begin2]; rfl
theorem Rank_ok {a : List (List Int)} {n E L : Nat} (h : Sq a n E) (hn : n ≤ 48) (hn1 : 1 ≤ n) (hE1 : 1 ≤ E) (hE : E ≤ 1099511627776) (hB : (n * E) ^ n < 4294967296 ^ L) (hL : L ≤ 2048) : Ok (P_exact_Rank a) (fun r => r.2 = 0 ∧ (r.1 = (n : Int) ↔ det n (mat a) ≠ 0)) := by
  have hl := h.len
  have hw : n + ([] : List (List Int)).length = n := rfl
  have ent0 : ∀ i j, i < n → j < n → (tabM a [] n i j).natAbs ≤ E := by
    intro i j hi hj
    unfold tabM; rw [if_pos hj]; exact h.ent i j hi hj
  unfold P_exact_Rank
  rw [check2, begin2]
  refine ok_bd (check_ok h hn hE) ?_
  rintro _ rfl
  refine ok_f (by simp) (ok_bd (begin_ok (n := n) (v := n) hl h.row (fun i hi => by simp at hi) (by omega) (by omega) (by simp) (fun i j hi hj => ?_) (fun i j hi => by simp at hi)) ?_)
  · have := h.ent i j hi hj; omega
  rintro ⟨rows0, ng, mg⟩ ⟨e1, e2, hR⟩
  simp only at e1 e2 hR
  rw [hw] at hR
  subst e1; subst e2
  refine ok_bd (R := fun s => s.2.2.2.2 = (n : Int) ↔ det n (mat a) ≠ 0) (ok_t (by omega) (ok_ck ⟨by omega, by omega⟩ (ok_lv (ok_bd (R := fun s => s.2.2.2.2 = (n : Int) ↔ det n (mat a) ≠ 0) ?_ ?_)))) ?_
  · have h0 : (gt a (0 : Int)).length = n := h.row 0 (by omega)
    refine ok_lp (fun s => ∃ (c k : Nat) (A T : Mat) (d : Int) (γ : Nat → Nat), s.1 = (c : Int) ∧ c ≤ n ∧ k ≤ c ∧ s.2.2.2.2.2 = (k : Int) ∧ s.2.2.1 = (big d).fneg ∧ s.2.2.2.1 = (big d).fmag ∧ Rows s.2.1 n n T ∧ Elim (tabM a [] n) A n n γ k T d s.2.2.2.2.1 false L ∧ (k = c → γ = fun x => x) ∧ (k < c → det n (mat a) = 0))
      (fun s => ((n : Int) - s.1).toNat) ⟨0, 0, _, _, 1, _, rfl, Nat.zero_le _, Nat.le_refl _, rfl, rfl, rfl, hR, Elim.start hn1 hE1 hB ent0, fun _ => rfl, fun q => by omega⟩ (by simp only; omega) ?_
    rintro ⟨y, rows, ng, mg, odd, rk⟩ ⟨c, k, A, T, d, γ, rfl, hc, hkc, rfl, e1, e2, hR, hEl, g1, g2⟩
    simp only at e1 e2 hR hEl
    subst e1; subst e2
    have hkn := hEl.kn
    unfold P_exact_Rank_L7
    dsimp only
    rw [h0, big_eta]
    refine ok_ite (fun hlt => ?_) fun hge => ok_some ?_
    · have hcn : c < n := by omega
      refine ok_bd (pivot_ok (odd := odd) (all := false) hR (c := c) (k := k) (L := L) (d := d) hcn (by omega) hEl.d0 (by omega) (by omega) (by omega) hEl.sd hEl.sz) ?_
      rintro r (⟨rfl, hz⟩ | ⟨s, s0, s1, s2, rows', rfl, hR'⟩)
      · refine ok_ar (by omega) (ok_some ⟨⟨c + 1, k, A, T, d, γ, by simp only; omega, by omega, by omega, rfl, rfl, rfl, hR, hEl, fun q => by omega, fun _ => ?_⟩, by simp only; omega⟩)
        by_cases q : k = c
        · subst q
          have hγ := g1 rfl
          subst hγ
          have := hEl.none hcn hcn hz
          rwa [tab_nil] at this
        · exact g2 (by omega)
      · have hS := hEl.step hE1 hB ent0 s0 s1 hcn s2
        refine ok_ar (by omega) (ok_some ⟨⟨c + 1, k + 1, _, _, _, _, by simp only; omega, by omega, by omega, rfl, rfl, rfl, hR', hS, fun q => ?_, fun q => g2 (by omega)⟩, by simp only; omega⟩)
        have e : k = c := by omega
        subst e
        rw [g1 rfl]
        exact setγ_id k
    · have e : c = n := by omega
      subst e
      simp only
      constructor
      · intro q
        have e : k = c := by omega
        subst e
        have hγ := g1 rfl
        subst hγ
        have h1 := hEl.perm
        have h2 := hEl.dd
        rw [pdm_id] at h2
        rw [tab_nil, ← h2] at h1
        have h3 := hEl.d0
        intro hz
        rw [hz] at h1
        cases odd <;> simp at h1 <;> omega
      · intro q
        rcases Nat.lt_or_ge k c with p | p
        · exact absurd (g2 p) q
        · omega
  · rintro ⟨a1, a2, a3, a4, a5⟩ hs
    exact ok_some hs
  rintro ⟨a1, a2, a3, a4, a5⟩ hs
  exact ok_some ⟨rfl, hs⟩
/-! ### The product -/
theorem sm_abs {f : Nat → Int} {B : Nat} : ∀ n, (∀ i, i < n → (f i).natAbs ≤ B) → (sm n f).natAbs ≤ n * B := by
  intro n
  induction n with
  | zero => intro _; simp [sm]
  | succ n ih =>
    intro h
    have h1 := ih fun i hi => h i (by omega)
    have h2 := h n (by omega)
    have h3 := Int.natAbs_add_le (sm n f) (f n)
    rw [sm, Nat.add_mul]
    omega
section
variable {a b : List (List Int)} {n : Nat} (ha : Sq a n 1000) (hb : Sq b n 1000) (hn : n ≤ 16)
include ha hb hn
theorem term_abs {i j k : Nat} (hi : i < n) (hj : j < n) (hk : k < n) : (mat a i k * mat b k j).natAbs ≤ 1000000 := by
  rw [Int.natAbs_mul]
  exact Nat.mul_le_mul (ha.ent i k hi hk) (hb.ent k j hk hj)
theorem part_abs {i j : Nat} (hi : i < n) (hj : j < n) {m : Nat} (hm : m ≤ n) : (sm m (fun k => mat a i k * mat b k j)).natAbs ≤ 16000000 := by
  have h1 := sm_abs (f := fun k => mat a i k * mat b k j) (B := 1000000) m fun k hk => term_abs ha hb hn hi hj (by omega)
  omega
theorem product_ok : Ok (P_maskkeep4_product a b) (fun r => Sq r n 16000000 ∧ ∀ i j, i < n → j < n → mat r i j = mulM n (mat a) (mat b) i j) := by
  have hla := ha.len
  have hlb := hb.len
  unfold P_maskkeep4_product
  refine ok_bd (R := fun r => r.length = n ∧ ∀ i : Nat, i < n → (gt r (i : Int)).length = n ∧ ∀ j : Nat, j < n → gt (gt r (i : Int)) (j : Int) = sm n (fun k => mat a i k * mat b k j)) ?_ ?_
  · refine ok_lp (fun s => ∃ m : Nat, s.2 = (m : Int) ∧ m ≤ n ∧ s.1.length = m ∧ ∀ i : Nat, i < m → (gt s.1 (i : Int)).length = n ∧ ∀ j : Nat, j < n → gt (gt s.1 (i : Int)) (j : Int) = sm n (fun k => mat a i k * mat b k j)) (fun s => ((n : Int) - s.2).toNat) ⟨0, rfl, Nat.zero_le _, rfl, fun i hi => by omega⟩ (by simp only; omega) ?_
    rintro ⟨out, y⟩ ⟨m, rfl, hm, l1, e1⟩
    simp only at l1 e1 ⊢
    unfold P_maskkeep4_product_L3
    dsimp only
    rw [hla]
    refine ok_ite (fun hlt => ?_) fun hge => ok_some ⟨by omega, fun i hi => e1 i (by omega)⟩
    have hm' : m < n := by omega
    have hrl : (List.replicate ((n : Int) : Int).toNat (0 : Int)).length = n := by rw [List.length_replicate]; omega
    refine ok_ck (by simp only [mkOk]; omega) (ok_lv (ok_bd (R := fun row => row.length = n ∧ ∀ j : Nat, j < n → gt row (j : Int) = sm n (fun k => mat a m k * mat b k j)) ?_ ?_))
    · refine ok_lp (fun s => ∃ j : Nat, s.2 = (j : Int) ∧ j ≤ n ∧ s.1.length = n ∧ ∀ x : Nat, x < n → gt s.1 (x : Int) = if x < j then sm n (fun k => mat a m k * mat b k x) else 0) (fun s => ((n : Int) - s.2).toNat) ⟨0, rfl, Nat.zero_le _, hrl, fun x hx => by simp only; rw [gt_replicate]; simp⟩ (by simp only; omega) ?_
      rintro ⟨row, y⟩ ⟨j, rfl, hj, l2, e2⟩
      simp only at l2 e2 ⊢
      unfold P_maskkeep4_product_L7
      dsimp only
      rw [hrl]
      refine ok_ite (fun hlt2 => ?_) fun hge => ok_some ⟨l2, fun x hx => by rw [e2 x hx, if_pos (by omega)]⟩
      have hj' : j < n := by omega
      refine ok_bd (R := fun row' => row'.length = n ∧ ∀ x : Nat, x < n → gt row' (x : Int) = if x < j + 1 then sm n (fun k => mat a m k * mat b k x) else 0) ?_ ?_
      · refine ok_lp (fun s => ∃ k : Nat, s.2 = (k : Int) ∧ k ≤ n ∧ s.1.length = n ∧ ∀ x : Nat, x < n → gt s.1 (x : Int) = if x < j then sm n (fun k => mat a m k * mat b k x) else if x = j then sm k (fun k => mat a m k * mat b k x) else 0) (fun s => ((n : Int) - s.2).toNat)
          ⟨0, rfl, Nat.zero_le _, l2, fun x hx => by
            simp only
            rw [e2 x hx]
            by_cases q : x < j
            · rw [if_pos q, if_pos q]
            · rw [if_neg q, if_neg q, show sm 0 (fun k => mat a m k * mat b k x) = 0 from rfl]; simp⟩ (by simp only; omega) ?_
        rintro ⟨r, y⟩ ⟨k, rfl, hk, l3, e3⟩
        simp only at l3 e3 ⊢
        unfold P_maskkeep4_product_L10
        dsimp only
        rw [hla]
        refine ok_ite (fun hlt3 => ?_) fun hge => ok_some ⟨l3, fun x hx => ?_⟩
        · have hk' : k < n := by omega
          have r1 := ha.row m hm'
          have r2 := hb.row k hk'
          have hij : inb (j : Int) r.length := ⟨by omega, by omega⟩
          have ej : gt r (j : Int) = sm k (fun k => mat a m k * mat b k j) := by rw [e3 j hj', if_neg (Nat.lt_irrefl j), if_pos rfl]
          have b1 := part_abs ha hb hn hm' hj' (m := k) (by omega)
          have b2 := term_abs ha hb hn hm' hj' hk'
          have b3 := part_abs ha hb hn hm' hj' (m := k + 1) (by omega)
          refine ok_ck hij (ok_lv (ok_ck ⟨by omega, by omega⟩ (ok_lv (ok_ck ⟨by omega, by omega⟩ (ok_lv (ok_ck ⟨by omega, by omega⟩ (ok_lv (ok_ck ⟨by omega, by omega⟩ (ok_lv ?_)))))))))
          rw [ej]
          have et : gt (gt a (m : Int)) (k : Int) * gt (gt b (k : Int)) (j : Int) = mat a m k * mat b k j := rfl
          rw [et]
          refine ok_ar (by omega) (ok_ar (by omega) (ok_ck hij (ok_lv (ok_ar (by omega) (ok_some ⟨⟨k + 1, by simp only; omega, by omega, by simp only; rw [stt_length]; exact l3, fun x hx => ?_⟩, by simp only; omega⟩)))))
          simp only
          rw [gt_stt r _ hij (by omega)]
          by_cases q : x = j
          · subst q
            rw [if_pos rfl, if_neg (Nat.lt_irrefl x), if_pos rfl]; rfl
          · rw [if_neg (by omega), e3 x hx, if_neg q, if_neg q]
        · rw [e3 x hx, show k = n by omega]
          by_cases q : x < j
          · rw [if_pos q, if_pos (by omega)]
          · by_cases q2 : x = j
            · rw [if_neg q, if_pos q2, if_pos (by omega)]
            · rw [if_neg q, if_neg q2, if_neg (by omega)]
      rintro row' ⟨l3, e3⟩
      exact ok_ar (by omega) (ok_some ⟨⟨j + 1, by simp only; omega, by omega, l3, e3⟩, by simp only; omega⟩)
    rintro row ⟨l2, e2⟩
    refine ok_lv (ok_ck (by simp only [apOk, List.length_append, List.length_singleton]; omega) (ok_ar (by omega) (ok_some ⟨⟨m + 1, by simp only; omega, by omega, by simp only [List.length_append, List.length_singleton]; omega, fun i hi => ?_⟩, by simp only; omega⟩)))
    simp only
    by_cases e : i = m
    · subst e
      rw [gt_app_1 (by omega)]; exact ⟨l2, e2⟩
    · rw [gt_app_l (by omega)]; exact e1 i (by omega)
  rintro r ⟨l, e⟩
  refine ok_some ⟨⟨l, fun i hi => (e i hi).1, fun i j hi hj => ?_⟩, fun i j hi hj => (e i hi).2 j hj⟩
  unfold mat
  rw [(e i hi).2 j hj]
  exact part_abs ha hb hn hi hj (Nat.le_refl n)
end
theorem pow_big {n : Nat} (hn : n ≤ 16) : (n * 16000000) ^ n < 4294967296 ^ 14 := by
  have h1 : (n * 16000000) ^ n ≤ (16 * 16000000) ^ n := Nat.pow_le_pow_left (by omega) _
  have h2 : (16 * 16000000) ^ n ≤ (16 * 16000000) ^ 16 := Nat.pow_le_pow_right (by decide) hn
  have h3 : (16 * 16000000) ^ 16 < 4294967296 ^ 14 := by decide +kernel
  exact Nat.lt_of_le_of_lt (Nat.le_trans h1 h2) h3
theorem ExactProducts_ok {L : List Int} (hL : Strm L) : Ok (P_maskkeep4_ExactProducts L) (fun r => r = true) := by
  unfold P_maskkeep4_ExactProducts
  refine ok_bd (hL.range (by omega) (by omega) (by omega) (by omega)) ?_
  rintro ⟨n', k1⟩ ⟨i0, i1, rfl⟩
  simp only at i0 i1
  obtain ⟨n, rfl⟩ := Int.eq_ofNat_of_zero_le (show 0 ≤ n' by omega)
  have hn : n ≤ 16 := by omega
  have hn1 : 1 ≤ n := by omega
  dsimp only
  refine ok_bd (matrix_ok hL (by omega) (by omega) hn) ?_
  rintro ⟨a, k2⟩ ⟨hA, q0, q1⟩
  simp only at hA q0 q1
  dsimp only
  refine ok_bd (matrix_ok hL (by omega) (by omega) hn) ?_
  rintro ⟨b, k3⟩ ⟨hB, q2, q3⟩
  simp only at hB q2 q3
  rw [det2]
  dsimp only
  refine ok_bd (Det_ok hA (by omega) hn1 (by decide) (by decide) (pow_small hn) (by decide)) ?_
  rintro _ rfl
  refine ok_bd (Det_ok hB (by omega) hn1 (by decide) (by decide) (pow_small hn) (by decide)) ?_
  rintro _ rfl
  refine ok_bd (product_ok hA hB hn) ?_
  rintro p ⟨hP, eP⟩
  refine ok_bd (Det_ok hP (by omega) hn1 (by decide) (by decide) (pow_big hn) (by decide)) ?_
  rintro _ rfl
  have dA : dlen (det n (mat a)) ≤ 7 := dlen_det (Nat.le_refl n) (by decide) (pow_small hn) _ fun r hr c hc => hA.ent r c hr hc
  have dB : dlen (det n (mat b)) ≤ 7 := dlen_det (Nat.le_refl n) (by decide) (pow_small hn) _ fun r hr c hc => hB.ent r c hr hc
  have dP : dlen (det n (mat p)) ≤ 14 := dlen_det (Nat.le_refl n) (by decide) (pow_big hn) _ fun r hr c hc => hP.ent r c hr hc
  have dM := dlen_mul (det n (mat a)) (det n (mat b))
  have hdet : det n (mat p) = det n (mat a) * det n (mat b) := by
    rw [← det_mul]; exact det_congr fun r hr c hc => eP r c hr hc
  refine ok_bd (Mul_ok (by omega) (by omega) (by omega)) ?_
  rintro _ rfl
  refine ok_bd exacts_ok ?_
  rintro _ rfl
  dsimp only
  refine ok_lv (ok_lv (ok_lv (ok_lv (ok_bd (R := fun r => r = 0) (ok_gd (fun _ => (Cmp_ok (by omega) (by omega)).mono fun r hr => ?_) fun hq => by simp at hq) ?_))))
  · rw [hr, hdet, Int.sub_self]; rfl
  rintro _ rfl
  refine ok_lv (ok_f (by simp) (ok_bd (Rank_ok hA (by omega) hn1 (by decide) (by decide) (pow_small hn) (by decide)) ?_))
  rintro ⟨rk, e0⟩ ⟨hr0, hr⟩
  simp only at hr0 hr
  subst hr0
  refine ok_bd (hL.next (by omega) (by omega)) ?_
  rintro ⟨i', k4⟩ ⟨x0, x1, -, rfl⟩
  have x1 := x1 (by omega)
  simp only at x0 x1
  obtain ⟨i, rfl⟩ := Int.eq_ofNat_of_zero_le x0
  refine ok_bd (hL.next (by simp only; omega) (by omega)) ?_
  rintro ⟨j', k5⟩ ⟨y0, y1, -, rfl⟩
  have y1 := y1 (by omega)
  simp only at y0 y1
  obtain ⟨j, rfl⟩ := Int.eq_ofNat_of_zero_le y0
  have hla := hA.len
  have h1 : inb (i : Int) a.length := ⟨by omega, by omega⟩
  have h2 : ∀ x, inb (j : Int) (stt a (i : Int) x).length := fun x => by rw [stt_length]; exact ⟨by omega, by omega⟩
  have hj : j < n := by omega
  have hi : i < n := by omega
  have eg : ∀ r : Nat, gt (stt (stt a (i : Int) (gt a (j : Int))) (j : Int) (gt a (i : Int))) (r : Int) = gt a (((if r = j then i else if r = i then j else r : Nat)) : Int) := by
    intro r
    rw [gt_stt _ _ (h2 _) (by omega), gt_stt a _ h1 (by omega)]
    by_cases q : r = j
    · rw [if_pos (by omega), if_pos q]
    · rw [if_neg (by omega), if_neg q]
      by_cases q2 : r = i
      · rw [if_pos (by omega), if_pos q2]
      · rw [if_neg (by omega), if_neg q2]
  have hidx : ∀ r, r < n → (if r = j then i else if r = i then j else r) < n := by
    intro r hr
    split
    · exact hi
    · split
      · exact hj
      · exact hr
  have hZ : Sq (stt (stt a (i : Int) (gt a (j : Int))) (j : Int) (gt a (i : Int))) n 1000 := by
    refine ⟨by rw [stt_length, stt_length]; exact hla, fun r hr => ?_, fun r c hr hc => ?_⟩
    · rw [eg]; exact hA.row _ (hidx r hr)
    · unfold mat
      rw [eg]; exact hA.ent _ c (hidx r hr) hc
  have eZ : mat (stt (stt a (i : Int) (gt a (j : Int))) (j : Int) (gt a (i : Int))) = swapR (mat a) i j := by
    funext r c
    unfold mat swapR
    rw [eg]
  dsimp only
  refine ok_ck ⟨by omega, by omega⟩ (ok_lv (ok_ck h1 (ok_lv (ok_ck h1 (ok_lv (ok_ck (h2 _) (ok_lv ?_)))))))
  rw [det2]
  refine ok_bd (Det_ok hZ (by omega) hn1 (by decide) (by decide) (pow_small hn) (by decide)) ?_
  rintro _ rfl
  rw [eZ]
  refine ok_bd (R := fun s => s = ((big (det n (mat a))).fneg, (big (det n (mat a))).fmag)) (ok_ite (fun hne => ?_) fun heq => ok_some ?_) ?_
  · rw [det_swapR (mat a) hi hj (by omega)]
    refine ok_bd (Neg_ok (by rw [dlen_neg]; omega)) ?_
    rintro _ rfl
    exact ok_some (by rw [Int.neg_neg])
  · have e : i = j := by omega
    subst e
    rw [swapR_self]
  rintro _ rfl
  dsimp only
  rw [big_eta]
  refine ok_lv (ok_bd (R := fun r => r = 0) (ok_gd (fun _ => (Cmp_ok (by omega) (by omega)).mono fun r hr => ?_) fun hq => by simp at hq) ?_)
  · rw [hr, Int.sub_self]; rfl
  rintro _ rfl
  refine ok_lv (ok_bd (R := fun r => r = (det n (mat a)).sign) (ok_gd (fun _ => Sign_ok) fun hq => by simp at hq) ?_)
  rintro _ rfl
  refine ok_lv (ok_some ?_)
  have hs : (det n (mat a)).sign ≠ 0 ↔ det n (mat a) ≠ 0 := by
    constructor
    · intro p q; rw [q] at p; exact p rfl
    · intro p q; exact p (Int.sign_eq_zero_iff_zero.1 q)
  by_cases hd : det n (mat a) = 0
  · have : ¬ rk = (n : Int) := fun q => (hr.1 q) hd
    simp [hd, this]
  · have : rk = (n : Int) := hr.2 hd
    simp [this, hd]
end Go.Proofs.Ytkenpbnpemjbhaa.X
