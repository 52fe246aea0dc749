/- Determinants and systems of equations. Plain. -/
import Derived.Test.YtkenpbnpemjbhaaBH
namespace Go.Proofs.Ytkenpbnpemjbhaa.X
open Go Go.RowKit
set_option linter.unusedVariables false
set_option linter.unusedSimpArgs false
set_option linter.unusedSectionVars false
theorem setγ_id (k : Nat) : setγ (fun x => x) k k = fun x => x := by
  funext x; unfold setγ; split
  · rename_i h; exact h.symm
  · rfl
theorem mnr_id (A : Mat) (k i : Nat) : mnr A (fun x => x) k i k = det (k + 1) (brd k i k A) := rfl
theorem pdm_id (A : Mat) (k : Nat) : pdm A (fun x => x) k = det k A := rfl
theorem Elim.none {A0 A : Mat} {n w k : Nat} {T : Mat} {d : Int} {odd all : Bool} {L : Nat} (h : Elim A0 A n w (fun x => x) k T d odd all L) (hk : k < n) (hw : k < w) (hz : ∀ i, k ≤ i → i < n → T i k = 0) : det n A0 = 0 := by
  have h1 : det n A = 0 := det_nopivot A hk (by rw [← pdm_id, ← h.dd]; exact h.d0) fun i h2 h3 => by
    rw [← mnr_id, ← h.low i k h2 h3 hw]; exact hz i h2 h3
  have h2 := h.perm
  rw [h1] at h2
  cases odd <;> simp at h2 <;> omega
theorem tab_nil (a : List (List Int)) (n : Nat) : det n (tabM a [] n) = det n (mat a) := det_congr fun r hr c hc => by unfold tabM; rw [if_pos hc]
section
variable {a : List (List Int)} {n E L : Nat} (h : Sq a n E) (hn : n ≤ 48) (hn1 : 1 ≤ n) (hE1 : 1 ≤ E) (hE : E ≤ 1099511627776) (hB : (n * E) ^ n < 4294967296 ^ L) (hL : L ≤ 2048)
include h hn hn1 hE1 hE hB hL
theorem Det_ok : Ok (P_exact_Det a) (fun r => r = (big (det n (mat a)), 0)) := by
  have hl := h.len
  have ent0 : ∀ i j, i < n → j < n + ([] : List (List Int)).length → (tabM a [] n i j).natAbs ≤ E := by
    intro i j hi hj
    have hj' : j < n := hj
    unfold tabM; rw [if_pos hj']; exact h.ent i j hi hj'
  unfold P_exact_Det
  refine ok_bd (square_ok h hn hn1 hE) ?_
  rintro _ rfl
  refine ok_f (by simp) (ok_bd (begin_ok (n := n) (v := n) hl h.row (fun i hi => by simp at hi) (by omega) (by omega) (by simp) (fun i j hi hj => ?_) (fun i j hi => by simp at hi)) ?_)
  · have := h.ent i j hi hj; omega
  rintro ⟨rows0, ng, mg⟩ ⟨e1, e2, hR⟩
  simp only at e1 e2 hR
  subst e1; subst e2
  refine ok_bs (R := fun o => (∀ s, o = Sum.inl s → ∃ d : Int, s.2.1 = (big d).fneg ∧ s.2.2.1 = (big d).fmag ∧ det n (mat a) = if s.2.2.2.1 then -d else d) ∧ ∀ z, o = Sum.inr z → z = (big (det n (mat a)), 0)) ?_ ?_ ?_
  · refine ok_lp (fun s => ∃ (k : Nat) (A T : Mat) (d : Int), s.1 = (k : Int) ∧ s.2.2.2.2.2 = (k : Int) ∧ s.2.2.1 = (big d).fneg ∧ s.2.2.2.1 = (big d).fmag ∧ Rows s.2.1 n (n + ([] : List (List Int)).length) T ∧ Elim (tabM a [] n) A n (n + ([] : List (List Int)).length) (fun x => x) k T d s.2.2.2.2.1 false L)
      (fun s => ((n : Int) - s.1).toNat) ⟨0, _, _, 1, rfl, rfl, rfl, rfl, hR, Elim.start hn1 hE1 hB ent0⟩ (by simp only; omega) ?_
    rintro ⟨y, rows, ng, mg, odd, rk⟩ ⟨k, A, T, d, rfl, rfl, e1, e2, hR, hEl⟩
    simp only at e1 e2 hR hEl
    subst e1; subst e2
    have hkn := hEl.kn
    unfold P_exact_Det_L6
    dsimp only
    rw [hl, big_eta]
    refine ok_ite (fun hlt => ?_) fun hge => ok_some ⟨fun s hs => ?_, fun z hz => by cases hz⟩
    · have hk : k < n := by omega
      refine ok_bd (pivot_ok (odd := odd) (all := false) hR (c := k) (k := k) (L := L) (d := d) (by simpa using hk) (by omega) hEl.d0 (by omega) (by simp; omega) (by omega) hEl.sd hEl.sz) ?_
      rintro r (⟨rfl, hz⟩ | ⟨s, s0, s1, s2, rows', rfl, hR'⟩)
      · refine ok_t rfl (ok_some ⟨fun s hs => (by cases hs), fun z hz' => ?_⟩)
        cases hz'
        have := hEl.none hk (by simpa using hk) hz
        rw [tab_nil] at this
        rw [this]; rfl
      · have hS := hEl.step hE1 hB ent0 s0 s1 (c := k) (by simpa using hk) s2
        rw [setγ_id] at hS
        exact ok_f (by simp) (ok_ar (by omega) (ok_some ⟨⟨k + 1, _, _, _, by simp only; omega, rfl, rfl, rfl, hR', hS⟩, by simp only; omega⟩))
    · cases hs
      have e : k = n := by omega
      subst e
      refine ⟨d, rfl, rfl, ?_⟩
      have h1 := hEl.perm
      have h2 := hEl.dd
      rw [pdm_id] at h2
      rw [tab_nil, ← h2] at h1
      simp only
      cases odd <;> simp at h1 ⊢ <;> omega
  · rintro ⟨rows, ng, mg, odd, rk⟩ ⟨h1, -⟩
    obtain ⟨d, e1, e2, e3⟩ := h1 _ rfl
    simp only at e1 e2 e3
    subst e1; subst e2
    have hdl : dlen (det n (mat a)) ≤ L := dlen_det (Nat.le_refl n) hE1 hB _ fun r hr c hc => h.ent r c hr hc
    dsimp only
    rw [big_eta]
    refine ok_ite (fun ho => ?_) fun ho => ?_
    · rw [if_pos ho] at e3
      refine ok_bd (Neg_ok (by rw [e3, dlen_neg] at hdl; omega)) ?_
      rintro _ rfl
      exact ok_some (by rw [e3])
    · rw [if_neg ho] at e3
      exact ok_some (by rw [e3])
  · rintro z ⟨-, h2⟩
    exact ok_some (h2 z rfl)
end
end Go.Proofs.Ytkenpbnpemjbhaa.X
