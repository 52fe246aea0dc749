/- extract.grow: what lies beyond, and the delays. Plain. -/
import Derived.Test.YtnnmbmgnpdcefaaUB
namespace Go.Proofs.Ytnnmbmgnpdcefaa.X
open Go Go.RowKit
set_option linter.unusedVariables false
set_option linter.unusedSimpArgs false
set_option linter.unusedSectionVars false
theorem sumN_single {c : Int} {i : Nat} : ∀ {n : Nat}, i < n → sumN (fun j => if j = i then c else 0) n = c
  | 0, h => by omega
  | n + 1, h => by
    rw [sumN]
    by_cases q : n = i
    · have : sumN (fun j => if j = i then c else 0) n = sumN (fun _ => 0) n := sumN_congr fun j hj => by rw [if_neg (by omega)]
      rw [this, sumN_zero, if_pos q]; omega
    · rw [sumN_single (n := n) (by omega), if_neg q]; omega
theorem sumN_nn {f : Nat → Int} : ∀ {n : Nat}, (∀ i, i < n → 0 ≤ f i) → 0 ≤ sumN f n ∧ ∀ i, i < n → f i ≤ sumN f n
  | 0, _ => ⟨Int.le_refl _, fun i hi => by omega⟩
  | n + 1, h => by
    obtain ⟨h1, h2⟩ := sumN_nn (f := f) (n := n) fun i hi => h i (by omega)
    have h3 := h n (by omega)
    rw [sumN]
    refine ⟨by omega, fun i hi => ?_⟩
    by_cases q : i = n
    · rw [q]; omega
    · have := h2 i (by omega); omega
/-- The nodes from m on have their sums; those before it what their later kids gave. -/
structure Bey (n : Nat) (at_ up : Nat → T_rules_Spot) (ld : T_rules_Spot → Int) (M : Int) (m : Nat) (b : T_rules_Spot → Int) : Prop where
  dn : ∀ k, m ≤ k → k < n → b (at_ k) = ld (at_ k) + sumN (fun j => if kid at_ up k j = true then b (at_ j) else 0) n
  pd : ∀ k, k < m → b (at_ k) = sumN (fun j => if kid at_ up k j = true ∧ m ≤ j then b (at_ j) else 0) n
  bd_ : ∀ k, k < n → 0 ≤ b (at_ k) ∧ b (at_ k) ≤ n * M
  sm : sumN (fun k => b (at_ k)) m ≤ ((n : Int) - m) * M
section
variable {G : List T_extract_step} {n : Nat} {at_ up : Nat → T_rules_Spot} {rs : Nat → Int} {ld : T_rules_Spot → Int} {M : Int}
theorem Tr.later (h : Tr G n at_ up rs) {k j : Nat} (hk : k < n) (hj : j < n) (hq : kid at_ up k j = true) : k < j := by
  obtain ⟨j0, hu⟩ := kid_iff.1 hq
  obtain ⟨i, hi, hi2, _⟩ := h.par j j0 hj
  have := h.inj i k (by omega) hk (by rw [hi2, hu])
  omega
theorem Bey.start (hM : 0 ≤ M) (hn : Tr G n at_ up rs) : Bey n at_ up ld M n (fun _ => 0) := by
  have hz : ∀ p : Nat → Prop, ∀ [DecidablePred p], sumN (fun j => if p j then (0 : Int) else 0) n = 0 := fun p _ => by
    have : sumN (fun j => if p j then (0 : Int) else 0) n = sumN (fun _ => 0) n := sumN_congr fun j hj => by split <;> rfl
    rw [this, sumN_zero]
  refine ⟨fun k h1 h2 => by omega, fun k hk => (hz _).symm, fun k hk => ⟨Int.le_refl _, Int.mul_nonneg (by omega) hM⟩, ?_⟩
  rw [sumN_zero, Int.sub_self, Int.zero_mul]
  exact Int.le_refl _
/-- What one round makes of the sums. -/
def bnext (at_ up : Nat → T_rules_Spot) (ld : T_rules_Spot → Int) (m : Nat) (b : T_rules_Spot → Int) (v : T_rules_Spot) : Int :=
  if 0 < m ∧ v = up m then b (up m) + (b (at_ m) + ld (at_ m)) else if v = at_ m then b (at_ m) + ld (at_ m) else b v
theorem Bey.step (h : Tr G n at_ up rs) (hM : 0 ≤ M) (hl : ∀ k, k < n → 0 ≤ ld (at_ k) ∧ ld (at_ k) ≤ M) {m : Nat} (hm : m < n) {b : T_rules_Spot → Int} (hb : Bey n at_ up ld M (m + 1) b) :
    (0 ≤ b (at_ m) + ld (at_ m) ∧ b (at_ m) + ld (at_ m) ≤ n * M) ∧ Bey n at_ up ld M m (bnext at_ up ld m b) := by
  have hd := hb.sm
  rw [sumN] at hd
  have hnn := sumN_nn (f := fun k => b (at_ k)) (n := m) fun i hi => (hb.bd_ i (by omega)).1
  have hlm := hl m hm
  have hcm := hb.bd_ m hm
  have hmul : ((n : Int) - ((m + 1 : Nat) : Int)) * M + M = ((n : Int) - m) * M := by
    rw [show ((n : Int) - m) = ((n : Int) - ((m + 1 : Nat) : Int)) + 1 by omega, Int.add_mul, Int.one_mul]
  have hnM : ((n : Int) - m) * M ≤ n * M := Int.mul_le_mul_of_nonneg_right (by omega) hM
  have hx : 0 ≤ b (at_ m) + ld (at_ m) ∧ b (at_ m) + ld (at_ m) ≤ n * M := by omega
  refine ⟨hx, ?_⟩
  -- the parent's number
  have hpar : 0 < m → ∃ k, k < m ∧ at_ k = up m := fun m0 => by
    obtain ⟨k, hk, hk2, _⟩ := h.par m m0 hm
    exact ⟨k, hk, hk2⟩
  have em : bnext at_ up ld m b (at_ m) = b (at_ m) + ld (at_ m) := by
    unfold bnext
    rw [if_neg, if_pos rfl]
    rintro ⟨m0, e⟩
    obtain ⟨k, hk, hk2⟩ := hpar m0
    have := h.inj k m (by omega) hm (by rw [hk2, e])
    omega
  have el : ∀ j, m < j → j < n → bnext at_ up ld m b (at_ j) = b (at_ j) := fun j hj hjn => by
    unfold bnext
    rw [if_neg, if_neg]
    · intro e; have := h.inj j m hjn hm e; omega
    · rintro ⟨m0, e⟩
      obtain ⟨k, hk, hk2⟩ := hpar m0
      have := h.inj k j (by omega) hjn (by rw [hk2, e])
      omega
  have ee : ∀ k, k < m → bnext at_ up ld m b (at_ k) = b (at_ k) + (if kid at_ up k m = true then b (at_ m) + ld (at_ m) else 0) := fun k hk => by
    unfold bnext
    by_cases q : kid at_ up k m = true
    · obtain ⟨m0, hu⟩ := kid_iff.1 q
      rw [if_pos ⟨m0, hu.symm⟩, if_pos q, hu]
    · rw [if_neg q, if_neg, if_neg]
      · omega
      · intro e; have := h.inj k m (by omega) hm e; omega
      · rintro ⟨m0, e⟩; exact q (kid_iff.2 ⟨m0, e.symm⟩)
  refine ⟨fun k k0 k1 => ?_, fun k hk => ?_, fun k hk => ?_, ?_⟩
  · have hs : sumN (fun j => if kid at_ up k j = true then bnext at_ up ld m b (at_ j) else 0) n = sumN (fun j => if kid at_ up k j = true then b (at_ j) else 0) n := sumN_congr fun j hj => by
      by_cases q : kid at_ up k j = true
      · have := h.later k1 hj q
        rw [if_pos q, if_pos q, el j (by omega) hj]
      · rw [if_neg q, if_neg q]
    rw [hs]
    by_cases q : k = m
    · rw [q, em, hb.pd m (by omega)]
      have : sumN (fun j => if kid at_ up m j = true ∧ m + 1 ≤ j then b (at_ j) else 0) n = sumN (fun j => if kid at_ up m j = true then b (at_ j) else 0) n := sumN_congr fun j hj => by
        by_cases p : kid at_ up m j = true
        · have := h.later hm hj p
          rw [if_pos ⟨p, by omega⟩, if_pos p]
        · rw [if_neg fun x => p x.1, if_neg p]
      rw [this]; omega
    · rw [el k (by omega) k1, hb.dn k (by omega) k1]
  · rw [ee k hk, hb.pd k (by omega), ← sumN_single (c := if kid at_ up k m = true then b (at_ m) + ld (at_ m) else 0) hm, ← sumN_add]
    refine sumN_congr fun j hj => ?_
    by_cases q : j = m
    · rw [q, if_neg (by omega), if_pos rfl]
      by_cases p : kid at_ up k m = true
      · rw [if_pos p, if_pos ⟨p, Nat.le_refl _⟩, em]; omega
      · rw [if_neg p, if_neg fun x => p x.1]; rfl
    · rw [if_neg q]
      by_cases p : kid at_ up k j = true ∧ m ≤ j
      · rw [if_pos p, if_pos ⟨p.1, by omega⟩, el j (by omega) hj]; omega
      · rw [if_neg p, if_neg fun x => p ⟨x.1, by omega⟩]; rfl
  · by_cases q1 : k = m
    · rw [q1, em]; exact hx
    · by_cases q2 : m < k
      · rw [el k q2 hk]; exact hb.bd_ k hk
      · have h1 := (hb.bd_ k hk).1
        have h2 := hnn.2 k (by omega)
        rw [ee k (by omega)]
        split
        · omega
        · have := (hb.bd_ k hk).2; omega
  · have e1 : sumN (fun k => bnext at_ up ld m b (at_ k)) m = sumN (fun k => b (at_ k)) m + sumN (fun k => if kid at_ up k m = true then b (at_ m) + ld (at_ m) else 0) m := by
      rw [← sumN_add]; exact sumN_congr fun k hk => ee k hk
    have e2 : sumN (fun k => if kid at_ up k m = true then b (at_ m) + ld (at_ m) else 0) m ≤ b (at_ m) + ld (at_ m) := by
      by_cases m0 : 0 < m
      · obtain ⟨k0, hk, hk2⟩ := hpar m0
        have : sumN (fun k => if kid at_ up k m = true then b (at_ m) + ld (at_ m) else 0) m = sumN (fun k => if k = k0 then b (at_ m) + ld (at_ m) else 0) m := sumN_congr fun k hk' => by
          by_cases p : k = k0
          · rw [if_pos p, if_pos (kid_iff.2 ⟨m0, by rw [p, hk2]⟩)]
          · rw [if_neg p, if_neg]
            intro hq
            exact p (h.inj k k0 (by omega) (by omega) (by rw [hk2]; exact ((kid_iff.1 hq).2).symm))
        rw [this, sumN_single hk]; exact Int.le_refl _
      · have h0 : ∀ f : Nat → Int, sumN f m = 0 := fun f => by rw [show m = 0 by omega]; rfl
        rw [h0]; exact hx.1
    rw [e1]; omega
end
theorem beyond_ok {G : List T_extract_step} {order : List T_extract_visit} (h : Tr G order.length (fun i => (gt order i).fat) (fun i => (gt order i).fup) (fun i => (gt order i).fres)) (hlen : order.length ≤ 30000) {load : List (T_rules_Spot × Int)} {M : Int} (hM : 0 ≤ M ∧ M ≤ 1000000) (hl : ∀ v, 0 ≤ mget v load 0 ∧ mget v load 0 ≤ M) {i : Int} (hi : i = order.length - 1) :
    Ok (lp (P_extract_tree_grow_L23 load order) fuel ([], i)) (fun b => Bey order.length (fun i => (gt order i).fat) (fun i => (gt order i).fup) (fun v => mget v load 0) M 0 (fun v => mget v b 0)) := by
  have hnM : (order.length : Int) * M ≤ 30000 * 1000000 := Int.le_trans (Int.mul_le_mul_of_nonneg_right (by omega) hM.1) (Int.mul_le_mul_of_nonneg_left hM.2 (by omega))
  have hnM0 : 0 ≤ (order.length : Int) * M := Int.mul_nonneg (by omega) hM.1
  refine ok_lp (fun s => ∃ m : Nat, s.2 = m - 1 ∧ m ≤ order.length ∧ Bey order.length (fun i => (gt order i).fat) (fun i => (gt order i).fup) (fun v => mget v load 0) M m (fun v => mget v s.1 0)) (fun s => (s.2 + 1).toNat)
    ⟨order.length, by simp only; omega, Nat.le_refl _, Bey.start hM.1 h⟩ (by simp only; omega) ?_
  rintro ⟨b, i⟩ ⟨m, hi, hm, hb⟩
  simp only at hi hb ⊢
  unfold P_extract_tree_grow_L23
  dsimp only
  refine ok_ite (fun hge => ?_) fun hlt => ok_some (by rw [show m = 0 by omega] at hb; exact hb)
  obtain ⟨p, rfl⟩ : ∃ p, m = p + 1 := ⟨m - 1, by omega⟩
  have hib : i = (p : Int) := by omega
  obtain ⟨hx, hb'⟩ := Bey.step (ld := fun v => mget v load 0) h hM.1 (fun k hk => hl _) (m := p) (by omega) hb
  rw [hib]
  have hlv := hl (gt order (p : Int)).fat
  have hcv := hb.bd_ p (by omega)
  try simp only at hcv
  have hpb : inb (p : Int) order.length := ⟨by omega, by omega⟩
  refine ok_ck hpb (ok_lv ?_)
  rw [spot_eta, spot_eta]
  refine ok_lv (ok_lv (ok_ar (by omega) (ok_lv (ok_lv (ok_lv ?_)))))
  have hfin : ∀ {b' : List (T_rules_Spot × Int)}, (∀ v, mget v b' 0 = bnext (fun i : Nat => (gt order i).fat) (fun i : Nat => (gt order i).fup) (fun v => mget v load 0) p (fun v => mget v b 0) v) → Bey order.length (fun i => (gt order i).fat) (fun i => (gt order i).fup) (fun v => mget v load 0) M p (fun v => mget v b' 0) := fun he => by
    rw [show (fun v => mget v _ 0) = bnext (fun i : Nat => (gt order i).fat) (fun i : Nat => (gt order i).fup) (fun v => mget v load 0) p (fun v => mget v b 0) from funext he]
    exact hb'
  refine ok_bd (R := fun b' => Bey order.length (fun i => (gt order i).fat) (fun i => (gt order i).fup) (fun v => mget v load 0) M p (fun v => mget v b' 0)) (ok_ite (fun hp0 => ?_) fun hp0 => ok_some (hfin fun v => ?_)) fun b' hb2 => ok_ar (by omega) (ok_some ⟨⟨p, by first | rfl | (simp only; omega), by omega, hb2⟩, by simp only; omega⟩)
  · have hp0 : 0 < p := by omega
    obtain ⟨k, hk, hk2, _⟩ := h.par p hp0 (by omega)
    try simp only at hk2
    have hne : ¬ (gt order (p : Int)).fup = (gt order (p : Int)).fat := fun e => by
      have := h.inj k p (by omega) (by omega) (hk2.trans e)
      omega
    have hcu := hb'.bd_ k (by omega)
    simp only [bnext] at hcu
    rw [if_pos ⟨hp0, hk2⟩] at hcu
    have hcu0 := (hb.bd_ k (by omega))
    try simp only at hcu0
    rw [hk2] at hcu0
    refine ok_lv (ok_lv ?_)
    simp only [mget_mput, if_neg hne, if_true]
    refine ok_ar (by omega) (ok_lv (ok_lv (ok_lv (ok_some (hfin fun v => ?_)))))
    simp only [mget_mput, bnext]
    by_cases q1 : v = (gt order (p : Int)).fup
    · rw [if_pos q1, if_pos ⟨hp0, q1⟩]
    · have hn : ¬ (0 < p ∧ v = (gt order (p : Int)).fup) := fun x => q1 x.2
      simp only [if_neg q1, if_neg hn]
      by_cases q2 : v = (gt order (p : Int)).fat
      · simp only [if_pos q2]
      · simp only [if_neg q2]
  · simp only [mget_mput, bnext]
    have hn : ¬ (0 < p ∧ v = (gt order (p : Int)).fup) := fun x => hp0 (by have := x.1; omega)
    simp only [if_neg hn]
    by_cases q2 : v = (gt order (p : Int)).fat
    · simp only [if_pos q2]
    · simp only [if_neg q2]
end Go.Proofs.Ytnnmbmgnpdcefaa.X
