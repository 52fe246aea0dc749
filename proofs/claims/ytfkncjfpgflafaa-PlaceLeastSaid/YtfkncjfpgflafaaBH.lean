/- Elimination: what holds after each pivot; a matrix' table. Plain. -/
import Derived.Test.YtfkncjfpgflafaaBG
namespace Go.Proofs.Ytfkncjfpgflafaa.X
open Go Go.RowKit
set_option linter.unusedVariables false
set_option linter.unusedSimpArgs false
set_option linter.unusedSectionVars false
structure Elim (A0 A : Mat) (n w : Nat) (γ : Nat → Nat) (k : Nat) (T : Mat) (d : Int) (odd all : Bool) (L : Nat) : Prop where
 kn : k ≤ n
 dd : d = pdm A γ k
 d0 : d ≠ 0
 γw : ∀ x, x < k → γ x < w
 low : ∀ i j, k ≤ i → i < n → j < w → T i j = mnr A γ k i j
 top : all = true → ∀ i j, i < k → j < w → T i j = gjm A γ k i j
 perm : det n A = (if odd then -1 else 1) * det n A0
 from0 : ∀ i, i < n → ∃ i', i' < n ∧ A i = A0 i'
 to0 : ∀ i, i < n → ∃ i', i' < n ∧ A0 i = A i'
 sz : ∀ i j, i < n → j < w → dlen (T i j) ≤ L
 sd : dlen d ≤ L
theorem dlen_det {m n E L : Nat} (hm : m ≤ n) (hE : 1 ≤ E) (hB : (n * E) ^ n < 4294967296 ^ L) (M : Mat) (h : ∀ r, r < m → ∀ c, c < m → (M r c).natAbs ≤ E) : dlen (det m M) ≤ L := by
 refine dlen_le (Nat.lt_of_le_of_lt (det_bound m M h) (Nat.lt_of_le_of_lt ?_ hB))
 have h1 : (m * E) ^ m ≤ (n * E) ^ m := Nat.pow_le_pow_left (Nat.mul_le_mul_right _ hm) _
 by_cases h0 : n = 0
 ·obtain rfl : m = 0 := by omega
  simp [h0]
 ·have h2 : (n * E) ^ m ≤ (n * E) ^ n := Nat.pow_le_pow_right (Nat.mul_pos (by omega) (by omega)) hm
  omega
section
variable {A0 A : Mat} {n w : Nat} {γ : Nat → Nat} {k : Nat} {T : Mat} {d : Int} {odd all : Bool} {L E : Nat}
theorem Elim.start (hn : 1 ≤ n) (hE : 1 ≤ E) (hB : (n * E) ^ n < 4294967296 ^ L) (h0 : ∀ i j, i < n → j < w → (A0 i j).natAbs ≤ E) : Elim A0 A0 n w (fun x => x) 0 A0 1 false all L where
 kn := Nat.zero_le _
 dd := rfl
 d0 := by decide
 γw x hx := by omega
 low i j _ _ _ := by unfold mnr; rw [det_one]; simp
 top _ i j h := by omega
 perm := by simp
 from0 i hi := ⟨i, hi, rfl⟩
 to0 i hi := ⟨i, hi, rfl⟩
 sz i j hi hj := by
  have := dlen_det (m := 1) (n := n) hn hE hB (fun _ _ => A0 i j) fun _ _ _ _ => h0 i j hi hj
  rwa [det_one] at this
 sd := by
  have := dlen_det (m := 0) (n := n) (Nat.zero_le _) hE hB A0 fun r hr => by omega
  exact this
theorem Elim.step (h : Elim A0 A n w γ k T d odd all L) (hE : 1 ≤ E) (hB : (n * E) ^ n < 4294967296 ^ L) (h0 : ∀ i j, i < n → j < w → (A0 i j).natAbs ≤ E) {s c : Nat} (hs : k ≤ s) (hsn : s < n) (hc : c < w) (hp : T s c ≠ 0) :
  Elim A0 (swapR A s k) n w (setγ γ k c) (k + 1) (stepM T s k c d all) (T s c) (if s = k then odd else !odd) all L := by
 have hkn : k < n := by omega
 have hidx : ∀ i, k ≤ i → i < n → k ≤ (if i = k then s else if i = s then k else i) ∧ (if i = k then s else if i = s then k else i) < n := by
  intro i h1 h2
  split
  ·omega
  ·split <;> omega
 have T1 : ∀ i j, k ≤ i → i < n → j < w → swapR T s k i j = mnr (swapR A s k) γ k i j := by
  intro i j h1 h2 h3
  rw [mnr_swap A γ hs h1]
  exact h.low _ j (hidx i h1 h2).1 (hidx i h1 h2).2 h3
 have Ts : ∀ j, j < w → T s j = mnr (swapR A s k) γ k k j := fun j hj => by rw [← T1 k j (Nat.le_refl _) hkn hj, swapR_at]
 have dd : d = pdm (swapR A s k) γ k := by rw [pdm_swap A γ hs]; exact h.dd
 have d0 : pdm (swapR A s k) γ k ≠ 0 := by rw [← dd]; exact h.d0
 have γw : ∀ x, x < k + 1 → setγ γ k c x < w := by
  intro x hx
  unfold setγ
  split
  ·exact hc
  ·exact h.γw x (by omega)
 have from0 : ∀ i, i < n → ∃ i', i' < n ∧ swapR A s k i = A0 i' := by
  intro i hi
  refine h.from0 (if i = k then s else if i = s then k else i) ?_
  split
  ·exact hsn
  ·split <;> omega
 have ent : ∀ i j, i < n → j < w → (swapR A s k i j).natAbs ≤ E := by
  intro i j hi hj
  obtain ⟨i', h1, h2⟩ := from0 i hi
  rw [h2]; exact h0 i' j h1 hj
 have low : ∀ i j, k + 1 ≤ i → i < n → j < w → stepM T s k c d all i j = mnr (swapR A s k) (setγ γ k c) (k + 1) i j := by
  intro i j h1 h2 h3
  unfold stepM
  rw [if_neg (by omega), T1 i j (by omega) h2 h3, T1 i c (by omega) h2 hc, Ts c hc, Ts j h3, syl_row d0 (by omega), ← dd]
  exact Int.mul_ediv_cancel_left _ h.d0
 have top : all = true → ∀ i j, i < k + 1 → j < w → stepM T s k c d all i j = gjm (swapR A s k) (setγ γ k c) (k + 1) i j := by
  intro ha i j h1 h2
  unfold stepM
  by_cases q : i = k
  ·subst q
   rw [if_pos (.inl rfl), gjm_new, swapR_at, Ts j h2]
  ·rw [if_neg (by rw [ha]; simp; omega)]
   have e : ∀ j, j < w → swapR T s k i j = gjm (swapR A s k) γ k i j := fun j hj => by
    rw [swapR_low T hs (by omega), gjm_swap A γ hs]; exact h.top ha i j (by omega) hj
   rw [e j h2, e c hc, Ts c hc, Ts j h2, syl_top d0 (by omega), ← dd]
   exact Int.mul_ediv_cancel_left _ h.d0
 refine ⟨by omega, ?_, hp, γw, low, top, ?_, from0, ?_, ?_, h.sz s c hsn hc⟩
 ·rw [pdm_succ]; exact Ts c hc
 ·by_cases q : s = k
  ·subst q
   rw [swapR_self, if_pos rfl]; exact h.perm
  ·rw [det_swapR A hsn hkn q, if_neg q, h.perm]
   cases odd <;> simp
 ·intro i hi
  obtain ⟨i', h1, h2⟩ := h.to0 i hi
  refine ⟨if i' = k then s else if i' = s then k else i', ?_, ?_⟩
  ·split
   ·exact hsn
   ·split <;> omega
  ·rw [h2]
   unfold swapR
   by_cases q : i' = k
   ·rw [if_pos q]
    by_cases q2 : s = k
    ·rw [if_pos q2, q2, q]
    ·rw [if_neg q2, if_pos rfl, q]
   ·by_cases q2 : i' = s
    ·rw [if_neg q, if_pos q2, if_pos rfl, q2]
    ·rw [if_neg q, if_neg q2, if_neg q, if_neg q2]
 ·intro i j hi hj
  rcases Nat.lt_trichotomy i k with q | q | q
  ·cases all with
   | true =>
    rw [top rfl i j (by omega) hj]
    exact dlen_det (by omega) hE hB _ fun r hr x hx => ent r _ (by omega) (by split; exact hj; exact γw x hx)
   | false =>
    unfold stepM
    rw [if_pos (.inr ⟨q, rfl⟩), swapR_low T hs q]
    exact h.sz i j hi hj
  ·subst q
   unfold stepM
   rw [if_pos (.inl rfl), swapR_at]
   exact h.sz s j hsn hj
  ·rw [low i j (by omega) hi hj]
   refine dlen_det (by omega) hE hB _ fun r hr x hx => ent _ _ ?_ ?_
   ·split
    ·omega
    ·exact hi
   ·by_cases p : x < k + 1
    ·rw [if_pos p]; exact γw x p
    ·rw [if_neg p]; exact hj
end
/-! ### The table of a matrix -/
def mat (a : List (List Int)) : Mat := fun i j => gt (gt a (i : Int)) (j : Int)
/-- A square matrix of small numbers. -/
structure Sq (a : List (List Int)) (n E : Nat) : Prop where
 len : a.length = n
 row : ∀ i : Nat, i < n → (gt a (i : Int)).length = n
 ent : ∀ i j, i < n → j < n → (mat a i j).natAbs ≤ E
/-- The numbers of the table: the matrix, and a further column. -/
def tabM (a more : List (List Int)) (v : Nat) : Mat := fun i j => if j < v then mat a i j else mat more (j - v) i
theorem begin_ok {a more : List (List Int)} {n v : Nat} (hl : a.length = n) (hr : ∀ i : Nat, i < n → (gt a (i : Int)).length = v) (hm : ∀ i : Nat, i < more.length → (gt more (i : Int)).length = n) (hn : n ≤ 1000) (hv : v ≤ 1000) (hm2 : more.length ≤ 1000)
  (h64 : ∀ i j, i < n → j < v → I64 (mat a i j)) (h64' : ∀ i j, i < more.length → j < n → I64 (mat more i j)) :
  Ok (P_exact_begin a more) (fun r => r.2.1 = (big 1).fneg ∧ r.2.2 = (big 1).fmag ∧ Rows r.1 n (v + more.length) (tabM a more v)) := by
 unfold P_exact_begin
 refine ok_bd (Of_ok (by omega)) ?_
 rintro _ rfl
 refine ok_bd (R := fun r => Rows r n (v + more.length) (tabM a more v)) ?_ fun r hr => ok_some ⟨rfl, rfl, hr⟩
 refine ok_lp (fun s => ∃ m : Nat, s.1 = (m : Int) ∧ m ≤ n ∧ Rows s.2 m (v + more.length) (tabM a more v)) (fun s => ((n : Int) - s.1).toNat) ⟨0, rfl, Nat.zero_le _, ⟨rfl, fun i hi => by omega, fun i j hi => by omega⟩⟩ (by simp only; omega) ?_
 rintro ⟨y, rows⟩ ⟨m, rfl, hmn, hR⟩
 simp only at hR ⊢
 unfold P_exact_begin_L3
 dsimp only
 rw [hl]
 refine ok_ite (fun hlt => ?_) fun hge => ok_some ?_
 ·have hm' : m < n := by omega
  have hrow := hr m hm'
  refine ok_ck ⟨by omega, by omega⟩ (ok_lv (ok_bd (R := fun s => s.length = v ∧ ∀ j : Nat, j < v → gt s (j : Int) = big (mat a m j)) ?_ ?_))
  ·refine ok_lp (fun s => ∃ j : Nat, s.2 = (j : Int) ∧ j ≤ v ∧ s.1.length = j ∧ ∀ i : Nat, i < j → gt s.1 (i : Int) = big (mat a m i)) (fun s => ((v : Int) - s.2).toNat) ⟨0, rfl, Nat.zero_le _, rfl, fun i hi => by omega⟩ (by simp only; omega) ?_
   rintro ⟨l, y⟩ ⟨j, rfl, hj, l1, e1⟩
   simp only at l1 e1 ⊢
   unfold P_exact_begin_L7
   dsimp only
   rw [hrow]
   refine ok_ite (fun h => ?_) fun h => ok_some ⟨by omega, fun i hi => e1 i (by omega)⟩
   refine ok_ck ⟨by omega, by omega⟩ (ok_lv (ok_bd (Of_ok (h64 m j hm' (by omega))) ?_))
   rintro _ rfl
   refine ok_lv (ok_ck (by simp only [apOk, List.length_append, List.length_singleton]; omega) (ok_ar (by omega) (ok_some ⟨⟨j + 1, by simp only; omega, by omega, by simp only [List.length_append, List.length_singleton]; omega, fun i hi => ?_⟩, by simp only; omega⟩)))
   simp only
   by_cases q : i = j
   ·subst q; exact gt_app_1 (by omega)
   ·rw [gt_app_l (by omega)]; exact e1 i (by omega)
  rintro l ⟨l1, e1⟩
  refine ok_bd (R := fun s => s.length = v + more.length ∧ ∀ j : Nat, j < v + more.length → gt s (j : Int) = big (tabM a more v m j)) ?_ ?_
  ·refine ok_lp (fun s => ∃ j : Nat, s.2 = (j : Int) ∧ j ≤ more.length ∧ s.1.length = v + j ∧ ∀ i : Nat, i < v + j → gt s.1 (i : Int) = big (tabM a more v m i)) (fun s => ((more.length : Int) - s.2).toNat) ⟨0, rfl, Nat.zero_le _, l1, fun i hi => by
     simp only; rw [e1 i (by omega)]; unfold tabM; rw [if_pos (by omega)]⟩ (by simp only; omega) ?_
   rintro ⟨l, y⟩ ⟨j, rfl, hj, l1, e1⟩
   simp only at l1 e1 ⊢
   unfold P_exact_begin_L12
   dsimp only
   refine ok_ite (fun h => ?_) fun h => ok_some ⟨by omega, fun i hi => e1 i (by omega)⟩
   have hj' : j < more.length := by omega
   refine ok_ck ⟨by omega, by omega⟩ (ok_lv (ok_ck ⟨by omega, by rw [hm j hj']; omega⟩ (ok_lv (ok_bd (Of_ok (h64' j m hj' hm')) ?_))))
   rintro _ rfl
   refine ok_lv (ok_ck (by simp only [apOk, List.length_append, List.length_singleton]; omega) (ok_ar (by omega) (ok_some ⟨⟨j + 1, by simp only; omega, by omega, by simp only [List.length_append, List.length_singleton]; omega, fun i hi => ?_⟩, by simp only; omega⟩)))
   simp only
   by_cases q : i = v + j
   ·subst q
    rw [gt_app_1 (by omega)]
    unfold tabM
    rw [if_neg (by omega), show v + j - v = j by omega]; rfl
   ·rw [gt_app_l (by omega)]; exact e1 i (by omega)
  rintro l2 ⟨l2l, l2e⟩
  refine ok_lv (ok_ck (by simp only [apOk, List.length_append, List.length_singleton, hR.len]; omega) (ok_ar (by omega) (ok_some ⟨⟨m + 1, by simp only; omega, by omega, ⟨by simp only [List.length_append, List.length_singleton, hR.len], fun i hi => ?_, fun i j hi hj => ?_⟩⟩, by simp only; omega⟩)))
  ·simp only
   by_cases q : i = m
   ·subst q; rw [gt_app_1 (by rw [hR.len])]; exact l2l
   ·rw [gt_app_l (by rw [hR.len]; omega)]; exact hR.row i (by omega)
  ·simp only
   by_cases q : i = m
   ·subst q; rw [gt_app_1 (by rw [hR.len])]; exact l2e j hj
   ·rw [gt_app_l (by rw [hR.len]; omega)]; exact hR.ent i j (by omega) hj
 ·have e : m = n := by omega
  subst e; exact hR
theorem check_ok {a : List (List Int)} {n E : Nat} (h : Sq a n E) (hn : n ≤ 48) (hE : E ≤ 1099511627776) : Ok (P_exact_CheckMatrix a) (fun r => r = 0) := by
 have hl := h.len
 unfold P_exact_CheckMatrix
 refine ok_f (by omega) (ok_bs1 (R := fun _ => True) ?_ fun _ _ => ok_some rfl)
 refine ok_lp (fun y => 0 ≤ y ∧ y ≤ n) (fun y => ((n : Int) - y).toNat) ⟨by omega, by omega⟩ (by omega) ?_
 rintro y ⟨y0, y1⟩
 obtain ⟨m, rfl⟩ := Int.eq_ofNat_of_zero_le y0
 unfold P_exact_CheckMatrix_L4
 rw [hl]
 refine ok_ite (fun hlt => ?_) fun hge => ok_some ⟨(), rfl, trivial⟩
 have h1 := h.row m (by omega)
 have h2 := h.row 0 (by omega)
 have h2' : (gt a (0 : Int)).length = n := h2
 refine ok_ck ⟨by omega, by omega⟩ (ok_lv (ok_f (by omega) (ok_ck ⟨by omega, by omega⟩ (ok_lv (ok_f (by omega) (ok_bs1 (R := fun _ => True) ?_ fun _ _ => ok_ar (by omega) (ok_some ⟨⟨by omega, by omega⟩, by omega⟩)))))))
 refine ok_lp (fun y => 0 ≤ y ∧ y ≤ n) (fun y => ((n : Int) - y).toNat) ⟨by omega, by omega⟩ (by omega) ?_
 rintro z ⟨z0, z1⟩
 obtain ⟨j, rfl⟩ := Int.eq_ofNat_of_zero_le z0
 unfold P_exact_CheckMatrix_L11
 rw [h1]
 refine ok_ite (fun hlt2 => ?_) fun hge => ok_some ⟨(), rfl, trivial⟩
 have he := h.ent m j (by omega) (by omega)
 unfold mat at he
 refine ok_ck ⟨by omega, by omega⟩ (ok_lv (ok_lv (ok_f ?_ (ok_ar (by omega) (ok_some ⟨⟨by omega, by omega⟩, by omega⟩)))))
 simp only [Bool.or_eq_true, decide_eq_true_eq]
 omega
theorem square_ok {a : List (List Int)} {n E : Nat} (h : Sq a n E) (hn : n ≤ 48) (hn1 : 1 ≤ n) (hE : E ≤ 1099511627776) : Ok (P_exact_square a) (fun r => r = 0) := by
 have hl := h.len
 have h2' : (gt a (0 : Int)).length = n := h.row 0 (by omega)
 unfold P_exact_square
 refine ok_bd (check_ok h hn hE) ?_
 rintro _ rfl
 refine ok_f (by simp) (ok_ck (fun _ => ⟨by omega, by omega⟩) (ok_lv (ok_lv (ok_f ?_ (ok_some rfl)))))
 simp only [Bool.and_eq_true, decide_eq_true_eq]
 omega
end Go.Proofs.Ytfkncjfpgflafaa.X
