/- Determinants and systems of equations. Plain. -/
import Derived.Test.YtfkncjfpgflafaaBH
namespace Go.Proofs.Ytfkncjfpgflafaa.X
open Go Go.RowKit
set_option linter.unusedVariables false
set_option linter.unusedSimpArgs false
set_option linter.unusedSectionVars false
theorem setγ_id (k : Nat) : setγ (fun x => x) k k = fun x => x := by
 funext x; unfold setγ; split
 ·rename_i h; exact h.symm
 ·rfl
theorem mnr_id (A : Mat) (k i : Nat) : mnr A (fun x => x) k i k = det (k + 1) (brd k i k A) := rfl
theorem pdm_id (A : Mat) (k : Nat) : pdm A (fun x => x) k = det k A := rfl
theorem Elim.none {A0 A : Mat} {n w k : Nat} {T : Mat} {d : Int} {odd all : Bool} {L : Nat} (h : Elim A0 A n w (fun x => x) k T d odd all L) (hk : k < n) (hw : k < w) (hz : ∀ i, k ≤ i → i < n → T i k = 0) : det n A0 = 0 := by
 have h1 : det n A = 0 := det_nopivot A hk (by rw [← pdm_id, ← h.dd]; exact h.d0) fun i h2 h3 => by
  rw [← mnr_id, ← h.low i k h2 h3 hw]; exact hz i h2 h3
 have h2 := h.perm
 rw [h1] at h2
 cases odd <;> simp at h2 <;> omega
section
variable {a : List (List Int)} {n E L : Nat} (h : Sq a n E) (hn : n ≤ 48) (hn1 : 1 ≤ n) (hE1 : 1 ≤ E) (hE : E ≤ 1099511627776) (hB : (n * E) ^ n < 4294967296 ^ L) (hL : L ≤ 2048)
include h hn hn1 hE1 hE hB hL
/-- What Solve answers. -/
structure Sol (a : List (List Int)) (b : List Int) (n L : Nat) (out : List T_exact_Ratio) (D : Int) (X : Nat → Int) : Prop where
 len : out.length = n
 D0 : D ≠ 0
 DL : dlen D ≤ L
 XL : ∀ i, i < n → dlen (X i) ≤ L
 eqn : ∀ i, i < n → sm n (fun j => mat a i j * X j) = D * gt b (i : Int)
 out : ∀ i : Nat, i < n → gt out (i : Int) = rt (Rat.divInt (X i) D)
theorem Solve_ok {b : List Int} (hb : b.length = n) (hbE : ∀ i : Nat, i < n → (gt b (i : Int)).natAbs ≤ E) : Ok (P_exact_Solve a b) (fun r => (det n (mat a) = 0 → r = ([], 7)) ∧ (det n (mat a) ≠ 0 → r.2 = 0 ∧ ∃ D X, Sol a b n L r.1 D X)) := by
 have hl := h.len
 have hw : n + ([b] : List (List Int)).length = n + 1 := rfl
 have ent0 : ∀ i j, i < n → j < n + 1 → (tabM a [b] n i j).natAbs ≤ E := by
  intro i j hi hj
  unfold tabM
  by_cases q : j < n
  ·rw [if_pos q]; exact h.ent i j hi q
  ·rw [if_neg q, show j - n = 0 by omega]; exact hbE i hi
 have edet : det n (tabM a [b] n) = det n (mat a) := det_congr fun r hr c hc => by unfold tabM; rw [if_pos hc]
 unfold P_exact_Solve
 refine ok_bd (square_ok h hn hn1 hE) ?_
 rintro _ rfl
 refine ok_f (by simp) (ok_f (by omega) (ok_bs1 (R := fun _ => True) ?_ fun _ _ => ?_))
 ·refine ok_lp (fun y => 0 ≤ y ∧ y ≤ n) (fun y => ((n : Int) - y).toNat) ⟨by omega, by omega⟩ (by omega) ?_
  rintro z ⟨z0, z1⟩
  obtain ⟨j, rfl⟩ := Int.eq_ofNat_of_zero_le z0
  unfold P_exact_Solve_L7
  rw [hb]
  refine ok_ite (fun hlt2 => ?_) fun hge => ok_some ⟨(), rfl, trivial⟩
  have he := hbE j (by omega)
  refine ok_ck ⟨by omega, by omega⟩ (ok_lv (ok_lv (ok_f ?_ (ok_ar (by omega) (ok_some ⟨⟨by omega, by omega⟩, by omega⟩)))))
  simp only [Bool.or_eq_true, decide_eq_true_eq]
  omega
 refine ok_bd (begin_ok (n := n) (v := n) (more := [b]) hl h.row (fun i hi => ?_) (by omega) (by omega) (by simp) (fun i j hi hj => ?_) (fun i j hi hj => ?_)) ?_
 ·have : i = 0 := by simpa using hi
  subst this; exact hb
 ·have := h.ent i j hi hj; omega
 ·have : i = 0 := by simpa using hi
  subst this
  have := hbE j hj
  show I64 (gt b (j : Int))
  omega
 rintro ⟨rows0, ng, mg⟩ ⟨e1, e2, hR⟩
 simp only at e1 e2 hR
 rw [hw] at hR
 subst e1; subst e2
 have hl0 := hR.len
 refine ok_bs (R := fun o => (∀ s, o = Sum.inl s → ∃ A T d odd, Rows s.1 n (n + 1) T ∧ Elim (tabM a [b] n) A n (n + 1) (fun x => x) n T d odd true L) ∧ ∀ z, o = Sum.inr z → z = ([], 7) ∧ det n (mat a) = 0) ?_ ?_ ?_
 ·refine ok_lp (fun s => ∃ (k : Nat) (A T : Mat) (d : Int), s.1 = (k : Int) ∧ s.2.2.2.2.2 = (k : Int) ∧ s.2.2.1 = (big d).fneg ∧ s.2.2.2.1 = (big d).fmag ∧ Rows s.2.1 n (n + 1) T ∧ Elim (tabM a [b] n) A n (n + 1) (fun x => x) k T d s.2.2.2.2.1 true L)
   (fun s => ((n : Int) - s.1).toNat) ⟨0, _, _, 1, rfl, rfl, rfl, rfl, hR, Elim.start hn1 hE1 hB ent0⟩ (by simp only; omega) ?_
  rintro ⟨y, rows, ng, mg, odd, rk⟩ ⟨k, A, T, d, rfl, rfl, e1, e2, hR, hEl⟩
  simp only at e1 e2 hR hEl
  subst e1; subst e2
  have hkn := hEl.kn
  unfold P_exact_Solve_L14
  dsimp only
  rw [hl, big_eta]
  refine ok_ite (fun hlt => ?_) fun hge => ok_some ⟨fun s hs => ?_, fun z hz => by cases hz⟩
  ·have hk : k < n := by omega
   refine ok_bd (pivot_ok (odd := odd) (all := true) hR (c := k) (k := k) (L := L) (d := d) (by omega) (by omega) hEl.d0 (by omega) (by omega) (by omega) hEl.sd hEl.sz) ?_
   rintro r (⟨rfl, hz⟩ | ⟨s, s0, s1, s2, rows', rfl, hR'⟩)
   ·refine ok_t rfl (ok_some ⟨fun s hs => (by cases hs), fun z hz' => ?_⟩)
    cases hz'
    have := hEl.none hk (by omega) hz
    rw [edet] at this
    exact ⟨rfl, this⟩
   ·have hS := hEl.step hE1 hB ent0 s0 s1 (c := k) (by omega) s2
    rw [setγ_id] at hS
    exact ok_f (by simp) (ok_ar (by omega) (ok_some ⟨⟨k + 1, _, _, _, by simp only; omega, rfl, rfl, rfl, hR', hS⟩, by simp only; omega⟩))
  ·cases hs
   have e : k = n := by omega
   subst e
   exact ⟨A, T, d, odd, hR, hEl⟩
 ·rintro ⟨rows, ng, mg, odd', rk⟩ ⟨h1, -⟩
  obtain ⟨A, T, d, odd, hR, hEl⟩ := h1 _ rfl
  simp only at hR
  have hd : d = det n A := by rw [hEl.dd, pdm_id]
  have hdet : det n (mat a) ≠ 0 := by
   intro e
   have := hEl.perm
   rw [edet, e, ← hd] at this
   exact hEl.d0 (by rw [this]; cases odd <;> simp)
  have diag : ∀ i, i < n → T i i = d := by
   intro i hi
   rw [hEl.top rfl i i hi (by omega), hd]
   unfold gjm
   refine det_congr fun r hr c hc => ?_
   by_cases q : c = i
   ·rw [if_pos q, q]
   ·rw [if_neg q]
  have cram : ∀ i, i < n → sm n (fun j => A i j * T j n) = d * A i n := by
   intro i hi
   rw [hd, ← cramer A (fun r => A r n) hi]
   refine sm_congr fun j hj => ?_
   rw [hEl.top rfl j n hj (by omega)]
   congr 1
   unfold gjm
   refine det_congr fun r hr c hc => ?_
   unfold ucol
   by_cases q : c = j
   ·rw [if_pos q, if_pos q]
   ·rw [if_neg q, if_neg q]
  dsimp only
  refine ok_bs1 (R := fun out => out.length = n ∧ ∀ i : Nat, i < n → gt out (i : Int) = rt (Rat.divInt (T i n) d)) ?_ ?_
  ·refine ok_lp (fun s => ∃ m : Nat, s.2 = (m : Int) ∧ m ≤ n ∧ s.1.length = m ∧ ∀ i : Nat, i < m → gt s.1 (i : Int) = rt (Rat.divInt (T i n) d)) (fun s => ((n : Int) - s.2).toNat) ⟨0, rfl, Nat.zero_le _, rfl, fun i hi => by omega⟩ (by simp only; omega) ?_
   rintro ⟨out, y⟩ ⟨m, rfl, hm, l1, e1⟩
   simp only at l1 e1 ⊢
   unfold P_exact_Solve_L21
   dsimp only
   rw [hl0, hl]
   refine ok_ite (fun hlt => ?_) fun hge => ok_some ⟨_, rfl, by omega, fun i hi => e1 i (by omega)⟩
   have hm' : m < n := by omega
   have hrow := hR.row m hm'
   refine ok_ck ⟨by omega, by rw [hR.len]; omega⟩ (ok_lv (ok_ck ⟨by omega, by rw [hrow]; omega⟩ (ok_lv (ok_ck ⟨by omega, by rw [hrow]; omega⟩ (ok_lv ?_)))))
   rw [hR.ent m n hm' (by omega), hR.ent m m hm' (by omega), diag m hm']
   have s1 := hEl.sz m n hm' (by omega)
   have s2 := hEl.sd
   have s3 := rsz_divInt (n := T m n) hEl.d0
   refine ok_bd (reduced_ok hEl.d0 (by omega) (by omega) (by omega)) ?_
   rintro _ rfl
   refine ok_f (by simp) (ok_lv (ok_ck (by simp only [apOk, List.length_append, List.length_singleton]; omega) (ok_ar (by omega) (ok_some ⟨⟨m + 1, by simp only; omega, by omega, by simp only [List.length_append, List.length_singleton]; omega, fun i hi => ?_⟩, by simp only; omega⟩))))
   simp only
   by_cases q : i = m
   ·subst q; exact gt_app_1 (by omega)
   ·rw [gt_app_l (by omega)]; exact e1 i (by omega)
  rintro out ⟨lo, eo⟩
  refine ok_some ⟨fun e => absurd e hdet, fun _ => ⟨rfl, d, fun i => T i n, lo, hEl.d0, hEl.sd, fun i hi => hEl.sz i n hi (by omega), fun i hi => ?_, eo⟩⟩
  obtain ⟨i', h1, h2⟩ := hEl.to0 i hi
  have h3 := cram i' h1
  rw [← h2] at h3
  have h4 : tabM a [b] n i n = gt b (i : Int) := by
   unfold tabM; rw [if_neg (Nat.lt_irrefl n), Nat.sub_self]; rfl
  rw [h4] at h3
  rw [← h3]
  refine sm_congr fun j hj => ?_
  unfold tabM; rw [if_pos hj]
 ·rintro z ⟨-, h2⟩
  obtain ⟨rfl, h3⟩ := h2 z rfl
  exact ok_some ⟨fun _ => rfl, fun e => absurd h3 e⟩
end
end Go.Proofs.Ytfkncjfpgflafaa.X
