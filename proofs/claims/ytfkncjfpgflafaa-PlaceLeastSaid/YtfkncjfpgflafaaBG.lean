/- The table under elimination: one pivot. Plain. -/
import Derived.Test.YtfkncjfpgflafaaBA
import Derived.Test.YtfkncjfpgflafaaDA
namespace Go.Proofs.Ytfkncjfpgflafaa.X
open Go Go.RowKit
set_option linter.unusedVariables false
set_option linter.unusedSimpArgs false
set_option linter.unusedSectionVars false
/-- The rows hold the numbers of T. -/
structure Rows (rows : List (List T_exact_Int)) (n w : Nat) (T : Mat) : Prop where
 len : rows.length = n
 row : ∀ i : Nat, i < n → (gt rows (i : Int)).length = w
 ent : ∀ i j : Nat, i < n → j < w → gt (gt rows (i : Int)) (j : Int) = big (T i j)
theorem row_ok {t : T_exact_table} {d : Int} (ht : t.flast = big d) (hd : d ≠ 0) {pr rr : List T_exact_Int} {P R : Nat → Int} {w c L : Nat} (hp : pr.length = w) (hr : rr.length = w) (hP : ∀ j : Nat, j < w → gt pr (j : Int) = big (P j)) (hR : ∀ j : Nat, j < w → gt rr (j : Int) = big (R j))
  (hc : c < w) (hw : w ≤ 1000000) (hL : L ≤ 400000000) (ld : dlen d ≤ L) (lP : ∀ j, j < w → dlen (P j) ≤ L) (lR : ∀ j, j < w → dlen (R j) ≤ L) {z : List T_exact_Int} (hz : z.length = w) :
  Ok (lp (P_exact_table_pivot_L15 t (c : Int) pr rr) fuel (z, 0)) (fun s => s.length = w ∧ ∀ j : Nat, j < w → gt s (j : Int) = big ((P c * R j - R c * P j) / d)) := by
 refine ok_lp (fun s => (0 ≤ s.2 ∧ s.2 ≤ w) ∧ s.1.length = w ∧ ∀ j : Nat, (j : Int) < s.2 → gt s.1 (j : Int) = big ((P c * R j - R c * P j) / d)) (fun s => ((w : Int) - s.2).toNat) ⟨⟨by simp, by simp only; omega⟩, hz, fun j hj => by simp only at hj; omega⟩ (by simp only; omega) ?_
 rintro ⟨nx, y⟩ ⟨⟨y0, y1⟩, l1, e1⟩
 simp only at y0 y1 l1 e1
 unfold P_exact_table_pivot_L15
 dsimp only
 rw [hr]
 refine ok_ite (fun hlt => ?_) fun hge => ok_some ⟨l1, fun j hj => e1 j (by omega)⟩
 obtain ⟨j, rfl⟩ := Int.eq_ofNat_of_zero_le y0
 have hj : j < w := by omega
 refine ok_ck ⟨by omega, by omega⟩ (ok_lv (ok_ck ⟨by omega, by omega⟩ (ok_lv ?_)))
 rw [hP c hc, hR j hj]
 refine ok_bd (times_ok (by have := lP c hc; omega) (by have := lR j hj; omega)) ?_
 rintro _ rfl
 refine ok_ck ⟨by omega, by omega⟩ (ok_lv (ok_ck ⟨by omega, by omega⟩ (ok_lv ?_)))
 rw [hR c hc, hP j hj]
 refine ok_bd (times_ok (by have := lR c hc; omega) (by have := lP j hj; omega)) ?_
 rintro _ rfl
 have m1 := dlen_mul (P c) (R j)
 have m2 := dlen_mul (R c) (P j)
 have a1 := lP c hc; have a2 := lR j hj; have a3 := lR c hc; have a4 := lP j hj
 refine ok_bd (Neg_ok (by omega)) ?_
 rintro _ rfl
 have m3 := dlen_add (P c * R j) (-(R c * P j))
 have m4 := dlen_neg (R c * P j)
 refine ok_bd (plus_ok (by omega) (by omega)) ?_
 rintro _ rfl
 rw [ht, big_eta]
 refine ok_bd (split_ok hd (by omega) (by omega)) ?_
 rintro _ rfl
 dsimp only
 have hj2 : inb (j : Int) nx.length := ⟨by omega, by omega⟩
 refine ok_ck hj2 (ok_lv (ok_ar (by omega) (ok_some ⟨⟨⟨by simp only; omega, by simp only; omega⟩, by simp only; rw [stt_length]; exact l1, fun i hi => ?_⟩, by simp only; omega⟩)))
 simp only at hi ⊢
 rw [gt_stt nx _ hj2 (by omega)]
 by_cases e : i = j
 ·subst e
  rw [if_pos rfl]; rfl
 ·rw [if_neg (by omega)]
  exact e1 i (by omega)
/-- One step: row s goes to place k, and its number in column c clears the column. -/
def stepM (T : Mat) (s k c : Nat) (d : Int) (all : Bool) : Mat := fun i j =>
 if i = k ∨ (i < k ∧ all = false) then swapR T s k i j else (T s c * swapR T s k i j - swapR T s k i c * T s j) / d
theorem swapR_at (T : Mat) (s k : Nat) : swapR T s k k = T s := by unfold swapR; rw [if_pos rfl]
theorem pivot_ok {rows : List (List T_exact_Int)} {T : Mat} {n w c k L : Nat} {d : Int} {odd all : Bool} (hT : Rows rows n w T) (hc : c < w) (hk : k ≤ n) (hd : d ≠ 0) (hn : n ≤ 1000) (hw : w ≤ 1000) (hL : L ≤ 400000000) (ld : dlen d ≤ L) (lT : ∀ i j, i < n → j < w → dlen (T i j) ≤ L) :
  Ok (P_exact_table_pivot ⟨rows, big d, odd, (k : Int)⟩ (c : Int) all) (fun r => (r = (false, rows, (big d).fneg, (big d).fmag, odd, (k : Int)) ∧ ∀ i, k ≤ i → i < n → T i c = 0) ∨
   ∃ s, k ≤ s ∧ s < n ∧ T s c ≠ 0 ∧ ∃ rows', r = (true, rows', (big (T s c)).fneg, (big (T s c)).fmag, (if s = k then odd else !odd), ((k + 1 : Nat) : Int)) ∧ Rows rows' n w (stepM T s k c d all)) := by
 unfold P_exact_table_pivot
 dsimp only
 rw [hT.len]
 refine ok_bd (R := fun s => ∃ m : Nat, s = (m : Int) ∧ k ≤ m ∧ m ≤ n ∧ (∀ i, k ≤ i → i < m → T i c = 0) ∧ (m < n → T m c ≠ 0)) ?_ ?_
 ·refine ok_lp (fun s => ∃ m : Nat, s = (m : Int) ∧ k ≤ m ∧ m ≤ n ∧ ∀ i, k ≤ i → i < m → T i c = 0) (fun s => ((n : Int) - s).toNat) ⟨k, rfl, Nat.le_refl _, hk, fun i h1 h2 => by omega⟩ (by omega) ?_
  rintro _ ⟨m, rfl, m0, m1, m2⟩
  unfold P_exact_table_pivot_L2
  dsimp only
  rw [hT.len]
  have hrow : (m : Int) < (n : Int) → (gt rows (m : Int)).length = w := fun h => hT.row m (by omega)
  refine ok_ck (fun h => ?_) (ok_lv (ok_ck (fun h => ?_) (ok_lv (ok_bd (R := fun r => (m : Int) < n → r = (T m c).sign) (ok_gd (fun h => ?_) fun h => ?_) ?_))))
  ·simp only [decide_eq_true_eq] at h
   exact ⟨by omega, h⟩
  ·simp only [decide_eq_true_eq] at h
   rw [hrow h]; exact ⟨by omega, by omega⟩
  ·simp only [decide_eq_true_eq] at h
   rw [hT.ent m c (by omega) hc]
   exact Sign_ok.mono fun r hr _ => hr
  ·simp only [decide_eq_false_iff_not] at h
   exact fun q => absurd q h
  intro r hr
  refine ok_lv (ok_ite (fun h => ?_) fun h => ok_some ⟨m, rfl, m0, m1, m2, fun q e => ?_⟩)
  ·simp only [Bool.and_eq_true, decide_eq_true_eq] at h
   obtain ⟨h1, h2⟩ := h
   have h3 := hr h1
   rw [h2] at h3
   have h4 : T m c = 0 := Int.sign_eq_zero_iff_zero.1 h3.symm
   refine ok_ar (by omega) (ok_some ⟨⟨m + 1, by omega, by omega, by omega, fun i h5 h6 => ?_⟩, by omega⟩)
   by_cases e : i = m
   ·rw [e]; exact h4
   ·exact m2 i h5 (by omega)
  ·refine h ?_
   rw [hr (by omega), e]
   simp; omega
 rintro _ ⟨s, rfl, s0, s1, s2, s3⟩
 refine ok_ite (fun h => ok_some (.inl ⟨rfl, fun i h1 h2 => s2 i h1 (by omega)⟩)) fun h => ?_
 have hs : s < n := by omega
 have hT2 : Ok (if ((s : Nat) : Int) ≠ (k : Int) then
    ck (inb (k : Int) n) <|
    lv (gt rows (k : Int)) fun y7_23 =>
    ck (inb (s : Int) n) <|
    lv (gt rows (s : Int)) fun y7_30 =>
    ck (inb (s : Int) n) <|
    lv (stt rows (s : Int) y7_23) fun z7_37 =>
    ck (inb (k : Int) z7_37.length) <|
    lv (stt z7_37 (k : Int) y7_30) fun z7_39 =>
    some (z7_39, !odd)
   else
    some (rows, odd)) (fun p => p.2 = (if s = k then odd else !odd) ∧ Rows p.1 n w (swapR T s k)) := by
  refine ok_ite (fun hne => ?_) fun heq => ?_
  ·have i1 : inb (s : Int) rows.length := ⟨by omega, by rw [hT.len]; omega⟩
   have i2 : ∀ x, inb (k : Int) (stt rows (s : Int) x).length := fun x => by rw [stt_length]; exact ⟨by omega, by rw [hT.len]; omega⟩
   refine ok_ck ⟨by omega, by omega⟩ (ok_lv (ok_ck ⟨by omega, by omega⟩ (ok_lv (ok_ck ⟨by omega, by omega⟩ (ok_lv (ok_ck (i2 _) (ok_lv (ok_some ⟨by rw [if_neg (by omega)], ?_, fun i hi => ?_, fun i j hi hj => ?_⟩))))))))
   ·simp only; rw [stt_length, stt_length, hT.len]
   ·simp only
    rw [gt_stt _ _ (i2 _) (by omega), gt_stt rows _ i1 (by omega)]
    split
    ·exact hT.row s hs
    ·split
     ·exact hT.row k (by omega)
     ·exact hT.row i hi
   ·simp only
    rw [gt_stt _ _ (i2 _) (by omega), gt_stt rows _ i1 (by omega)]
    unfold swapR
    by_cases q : i = k
    ·rw [if_pos (by omega), if_pos q]; exact hT.ent s j hs hj
    ·rw [if_neg (by omega), if_neg q]
     by_cases q2 : i = s
     ·rw [if_pos (by omega), if_pos q2]; exact hT.ent k j (by omega) hj
     ·rw [if_neg (by omega), if_neg q2]; exact hT.ent i j hi hj
  ·have e : s = k := by omega
   subst e
   exact ok_some ⟨by rw [if_pos rfl], by simp only; rw [swapR_self]; exact hT⟩
 refine ok_bd hT2 ?_
 rintro ⟨rows1, odd1⟩ ⟨ho, h1⟩
 simp only at ho h1
 subst ho
 have hp := h1.row k (by omega)
 have hpe : ∀ j : Nat, j < w → gt (gt rows1 (k : Int)) (j : Int) = big (T s j) := fun j hj => by rw [h1.ent k j (by omega) hj, swapR_at]
 have lS : ∀ i j, i < n → j < w → dlen (swapR T s k i j) ≤ L := by
  intro i j hi hj
  unfold swapR
  split
  ·exact lT s j hs hj
  ·split
   ·exact lT k j (by omega) hj
   ·exact lT i j hi hj
 dsimp only
 refine ok_ck ⟨by omega, by rw [h1.len]; omega⟩ (ok_lv (ok_bd (R := fun r => Rows r n w (stepM T s k c d all)) ?_ ?_))
 ·refine ok_lp (fun p => ∃ m : Nat, p.2 = (m : Int) ∧ m ≤ n ∧ Rows p.1 n w (fun i j => if i < m then stepM T s k c d all i j else swapR T s k i j)) (fun p => ((n : Int) - p.2).toNat) ⟨0, rfl, Nat.zero_le _, by simpa using h1⟩ (by simp only; omega) ?_
  rintro ⟨r, y⟩ ⟨m, rfl, hm, hr⟩
  simp only at hr ⊢
  unfold P_exact_table_pivot_L10
  dsimp only
  rw [hT.len]
  refine ok_ite (fun hlt => ?_) fun hge => ok_some ?_
  ·have hmn : m < n := by omega
   have im : inb (m : Int) r.length := ⟨by omega, by rw [hr.len]; omega⟩
   have rm := hr.row m hmn
   have re : ∀ j : Nat, j < w → gt (gt r (m : Int)) (j : Int) = big (swapR T s k m j) := fun j hj => by rw [hr.ent m j hmn hj, if_neg (Nat.lt_irrefl m)]
   refine ok_bd (R := fun r' => Rows r' n w (fun i j => if i < m + 1 then stepM T s k c d all i j else swapR T s k i j)) (ok_ck im (ok_lv (ok_lv (ok_lv (ok_ite (fun hq => ok_some ?_) fun hq => ?_))))) ?_
   ·simp only [Bool.or_eq_true, Bool.and_eq_true, decide_eq_true_eq, Bool.not_eq_true'] at hq
    have hq' : m = k ∨ (m < k ∧ all = false) := by
     rcases hq with q | ⟨q1, q2⟩
     ·exact .inl (by omega)
     ·exact .inr ⟨by omega, q2⟩
    refine ⟨hr.len, hr.row, fun i j hi hj => ?_⟩
    rw [hr.ent i j hi hj]
    by_cases q : i < m
    ·rw [if_pos q, if_pos (by omega)]
    ·by_cases q2 : i = m
     ·subst q2
      rw [if_neg (Nat.lt_irrefl i), if_pos (by omega)]
      unfold stepM; rw [if_pos hq']
     ·rw [if_neg q, if_neg (by omega)]
   ·simp only [Bool.or_eq_true, Bool.and_eq_true, decide_eq_true_eq, Bool.not_eq_true'] at hq
    have hq' : ¬ (m = k ∨ (m < k ∧ all = false)) := by
     rintro (q | ⟨q1, q2⟩)
     ·exact hq (.inl (by omega))
     ·exact hq (.inr ⟨by omega, q2⟩)
    refine ok_ck (by rw [rm]; simp only [mkOk]; omega) (ok_lv (ok_bd (row_ok (d := d) (P := fun j => T s j) (R := fun j => swapR T s k m j) (w := w) (c := c) (L := L) rfl hd hp rm hpe re hc (by omega) hL ld (fun j hj => lT s j hs hj) (fun j hj => lS m j hmn hj) (by rw [List.length_replicate, rm]; omega)) ?_))
    rintro nx ⟨ln, en⟩
    refine ok_ck im (ok_lv (ok_some ⟨by rw [stt_length]; exact hr.len, fun i hi => ?_, fun i j hi hj => ?_⟩))
    ·rw [gt_stt r _ im (by omega)]
     split
     ·exact ln
     ·exact hr.row i hi
    ·rw [gt_stt r _ im (by omega)]
     by_cases q2 : i = m
     ·subst q2
      rw [if_pos rfl, if_pos (by omega), en j hj]
      unfold stepM; rw [if_neg hq']
     ·rw [if_neg (by omega), hr.ent i j hi hj]
      by_cases q : i < m
      ·rw [if_pos q, if_pos (by omega)]
      ·rw [if_neg q, if_neg (by omega)]
   intro r' hr'
   exact ok_ar (by omega) (ok_some ⟨⟨m + 1, by simp only; omega, by omega, hr'⟩, by simp only; omega⟩)
  ·have e : m = n := by omega
   subst e
   exact ⟨hr.len, hr.row, fun i j hi hj => by rw [hr.ent i j hi hj, if_pos hi]⟩
 intro r hr
 refine ok_ck ⟨by omega, by rw [hp]; omega⟩ (ok_lv (ok_ar (by omega) (ok_some (.inr ⟨s, s0, hs, s3 hs, r, ?_, hr⟩))))
 rw [hpe c hc]
 rfl
end Go.Proofs.Ytfkncjfpgflafaa.X
