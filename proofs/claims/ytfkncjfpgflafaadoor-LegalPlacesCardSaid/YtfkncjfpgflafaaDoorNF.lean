/- floor.Free of a drawn floor: disjoint spans outside the blocks. Plain. -/
import Derived.Test.YtfkncjfpgflafaaDoorNE
namespace Go.Proofs.YtfkncjfpgflafaaDoor.X
open Go Go.RowKit
set_option linter.unusedVariables false
set_option linter.unusedSimpArgs false
/-- A span of a row that no block meets. -/
structure SpanOk (f : T_floor_Floor) (row : Int) (s : T_floor_Span) : Prop where
  lo : 0 ≤ s.From
  ne : s.From < s.To
  hi : s.To ≤ f.Sites
  free : ∀ i : Int, 0 ≤ i → i < f.Blocks.length → (gt f.Blocks i).Row = row → s.To ≤ (gt f.Blocks i).From ∨ (gt f.Blocks i).To ≤ s.From
/-- Spans of a row, from left to right. -/
structure SpansOk (f : T_floor_Floor) (row : Int) (l : List T_floor_Span) : Prop where
  each : ∀ i : Int, 0 ≤ i → i < l.length → SpanOk f row (gt l i)
  sep : ∀ i j : Int, 0 ≤ i → i < j → j < l.length → (gt l i).To ≤ (gt l j).From
theorem Free_ok {f : T_floor_Floor} (hf : FlN f) (hp : f.Ports = []) {row : Int} (r0 : 0 ≤ row) (r1 : row < f.Rows) : Ok (P_floor_Free f row) (fun r => SpansOk f row r ∧ r.length ≤ 11) := by
  have a := hf.R
  have b := hf.S
  have e1 := hf.blockL
  unfold P_floor_Free
  refine ok_bd (FCheck0 hf hp) ?_
  rintro _ rfl
  refine ok_ck (fun _ => by omega) (ok_lv (fok_gw (by simp) ⟨by omega, by omega⟩ (ok_lv (ok_f (by simp) (ok_ar (by omega) (ok_ck (by simp only [mkOk]; omega) (ok_lv (ok_ck ⟨by omega, by simp; omega⟩ (ok_lv ?_)))))))))
  have hS : f.Sites = ((f.Sites.toNat : Nat) : Int) := by omega
  refine ok_bd (R := fun t => (t.length : Int) = f.Sites + 1 ∧ gt t f.Sites = true ∧ ∀ i : Int, 0 ≤ i → i < f.Blocks.length → (gt f.Blocks i).Row = row → ∀ k : Int, (gt f.Blocks i).From ≤ k → k < (gt f.Blocks i).To → gt t k = true) ?_ ?_
  · refine ok_lp (fun s => (s.1.length : Int) = f.Sites + 1 ∧ gt s.1 f.Sites = true ∧ 0 ≤ s.2 ∧ s.2 ≤ f.Blocks.length ∧ ∀ i : Int, 0 ≤ i → i < s.2 → (gt f.Blocks i).Row = row → ∀ k : Int, (gt f.Blocks i).From ≤ k → k < (gt f.Blocks i).To → gt s.1 k = true) (fun s => ((f.Blocks.length : Int) - s.2).toNat)
      ⟨by simp only [stt_length, List.length_replicate]; omega, by rw [gt_stt _ _ ⟨by omega, by simp; omega⟩ (by omega), if_pos rfl], by simp only; omega, by simp only; omega, fun i i0 i1 => by simp only at i1; omega⟩ (by simp only; omega) ?_
    rintro ⟨t, y⟩ ⟨l1, g1, y0, y1, h1⟩
    simp only at l1 g1 y0 y1 h1 ⊢
    unfold P_floor_Free_L6
    dsimp only
    refine ok_ite (fun hlt => ?_) fun hge => ok_some ⟨l1, g1, fun i i0 i1 => h1 i i0 (by omega)⟩
    have g := hf.block y ⟨y0, hlt⟩
    have gx := g.x
    have ey : ∀ i : Int, i = y → gt f.Blocks i = gt f.Blocks y := fun i e => by rw [e]
    refine ok_ck ⟨y0, hlt⟩ (ok_lv ?_)
    generalize gt f.Blocks y = bk at g gx ey
    refine ok_bd (R := fun u => (u.length : Int) = f.Sites + 1 ∧ (∀ k : Int, 0 ≤ k → gt t k = true → gt u k = true) ∧ (bk.Row = row → ∀ k : Int, bk.From ≤ k → k < bk.To → gt u k = true)) ?_ ?_
    · refine ok_lp (fun s => (s.1.length : Int) = f.Sites + 1 ∧ bk.From ≤ s.2 ∧ s.2 ≤ bk.To ∧ (∀ k : Int, 0 ≤ k → gt t k = true → gt s.1 k = true) ∧ ∀ k : Int, bk.From ≤ k → k < s.2 → gt s.1 k = true) (fun s => (bk.To - s.2).toNat)
        ⟨l1, by simp only; omega, by simp only; omega, fun k _ h => h, fun k k0 k1 => by simp only at k1; omega⟩ (by simp only; omega) ?_
      rintro ⟨u, k⟩ ⟨l2, k0, k1, h2, h3⟩
      simp only at l2 k0 k1 h2 h3 ⊢
      unfold P_floor_Free_L9
      dsimp only
      refine ok_lv (ok_ite (fun hx => ?_) fun hx => ok_some ⟨l2, h2, fun hr j j0 j1 => ?_⟩)
      · simp only [Bool.and_eq_true, decide_eq_true_eq] at hx
        have hb : inb k u.length := ⟨by omega, by omega⟩
        refine ok_ck hb (ok_lv (ok_ar (by omega) (ok_some ⟨⟨by rw [stt_length]; exact l2, by simp only; omega, by simp only; omega, fun j j0 hj => ?_, fun j j0 j1 => ?_⟩, by simp only; omega⟩)))
        · rw [gt_stt _ _ hb j0]
          split
          · rfl
          · exact h2 j j0 hj
        · simp only at j1
          rw [gt_stt _ _ hb (by omega)]
          split
          · rfl
          · exact h3 j j0 (by omega)
      · simp only [Bool.and_eq_true, decide_eq_true_eq] at hx
        exact h3 j j0 (by omega)
    rintro u ⟨l2, h2, h3⟩
    refine ok_ar (by omega) (ok_some ⟨⟨l2, h2 _ (by omega) g1, by simp only; omega, by simp only; omega, fun i i0 i1 hr k k0 k1 => ?_⟩, by simp only; omega⟩)
    simp only at i1 ⊢
    by_cases e : i = y
    · rw [ey i e] at hr k0 k1
      exact h3 hr k k0 k1
    · have gi := (hf.block i ⟨i0, by omega⟩).x
      exact h2 k (by omega) (h1 i i0 (by omega) hr k k0 k1)
  rintro t ⟨l1, g1, h1⟩
  refine ok_bd (R := fun r => SpansOk f row r ∧ r.length ≤ 11) ?_ fun r hr => ok_some hr
  refine ok_lp (fun s => 0 ≤ s.2.1 ∧ s.2.1 ≤ s.2.2 ∧ 0 ≤ s.2.2 ∧ s.2.2 ≤ f.Sites + 1 ∧ (s.1.length : Int) ≤ s.2.1 ∧ SpansOk f row s.1 ∧ (∀ i : Int, 0 ≤ i → i < s.1.length → (gt s.1 i).To ≤ s.2.1) ∧ ∀ k : Int, s.2.1 ≤ k → k < s.2.2 → gt t k = false) (fun s => (f.Sites + 1 - s.2.2).toNat)
    ⟨by simp only; omega, by simp only; omega, by simp only; omega, by simp only; omega, by simp, ⟨fun i i0 i1 => by simp at i1; omega, fun i j i0 i1 j1 => by simp at j1; omega⟩, fun i i0 i1 => by simp at i1; omega, fun k k0 k1 => by simp only at k0 k1; omega⟩ (by simp only; omega) ?_
  rintro ⟨out, fr, y⟩ ⟨f0, f1, y0, y1, lo, so, to, nt⟩
  simp only at f0 f1 y0 y1 lo so to nt ⊢
  unfold P_floor_Free_L16
  dsimp only
  rw [List.length_replicate]
  refine ok_ite (fun hlt => ?_) fun hge => ok_some ⟨so, by omega⟩
  refine ok_ck ⟨y0, by omega⟩ (ok_lv ?_)
  refine ok_bd (R := fun s => 0 ≤ s.2 ∧ s.2 ≤ y + 1 ∧ (s.1.length : Int) ≤ s.2 ∧ SpansOk f row s.1 ∧ (∀ i : Int, 0 ≤ i → i < s.1.length → (gt s.1 i).To ≤ s.2) ∧ ∀ k : Int, s.2 ≤ k → k < y + 1 → gt t k = false) ?_ ?_
  · refine ok_ite (fun ht => ?_) fun ht => ok_some ⟨f0, by simp only; omega, lo, so, to, fun k k0 k1 => ?_⟩
    · refine ok_bd (R := fun o => (o.length : Int) ≤ y + 1 ∧ SpansOk f row o ∧ ∀ i : Int, 0 ≤ i → i < o.length → (gt o i).To ≤ y + 1) (ok_ite (fun hl => ?_) fun hl => ok_some ⟨by omega, so, fun i i0 i1 => by have := to i i0 i1; omega⟩) ?_
      · refine ok_lv (ok_ck (by simp only [apOk, List.length_append, List.length_singleton]; omega) (ok_some ⟨by simp only [List.length_append, List.length_singleton]; omega, ⟨fun i i0 i1 => ?_, fun i j i0 i1 j1 => ?_⟩, fun i i0 i1 => ?_⟩))
        · simp only [List.length_append, List.length_singleton] at i1
          by_cases e : i = out.length
          · rw [gt_app_1 e]
            refine ⟨f0, hl, by simp only; omega, fun q q0 q1 hr => ?_⟩
            simp only
            have gq := (hf.block q ⟨q0, q1⟩).x
            by_cases c1 : y ≤ (gt f.Blocks q).From
            · exact Or.inl c1
            · by_cases c2 : (gt f.Blocks q).To ≤ fr
              · exact Or.inr c2
              · exfalso
                have m1 := h1 q q0 q1 hr (max fr (gt f.Blocks q).From) (by omega) (by omega)
                have m2 := nt (max fr (gt f.Blocks q).From) (by omega) (by omega)
                rw [m1] at m2; cases m2
          · rw [gt_app_l (by omega)]; exact so.each i i0 (by omega)
        · simp only [List.length_append, List.length_singleton] at j1
          rw [gt_app_l (xs := out) (i := i) (by omega)]
          by_cases e : j = out.length
          · rw [gt_app_1 e]; exact to i i0 (by omega)
          · rw [gt_app_l (by omega)]; exact so.sep i j i0 i1 (by omega)
        · simp only [List.length_append, List.length_singleton] at i1
          by_cases e : i = out.length
          · rw [gt_app_1 e]; simp only; omega
          · rw [gt_app_l (by omega)]; have := to i i0 (by omega); omega
      rintro o ⟨o1, o2, o3⟩
      exact ok_ar (by omega) (ok_some ⟨by simp only; omega, by simp only; omega, o1, o2, o3, fun k k0 k1 => by simp only at k0; omega⟩)
    · by_cases e : k = y
      · rw [e]; simpa using ht
      · exact nt k k0 (by omega)
  rintro ⟨o, fr'⟩ ⟨q0, q1, q2, q3, q4, q5⟩
  simp only at q0 q1 q2 q3 q4 q5
  exact ok_ar (by omega) (ok_some ⟨⟨q0, by simp only; omega, by simp only; omega, by simp only; omega, q2, q3, q4, q5⟩, by simp only; omega⟩)
end Go.Proofs.YtfkncjfpgflafaaDoor.X
