/- Orders out of sorts; one cell's best room. Plain. -/
import Derived.Test.YtfkncjfpgflafaaDoorNH
import Derived.Test.YtfkncjfpgflafaaDoorNB
import Derived.Test.YtfkncjfpgflafaaDoorNA
namespace Go.Proofs.YtfkncjfpgflafaaDoor.X
open Go Go.RowKit
set_option linter.unusedVariables false
set_option linter.unusedSimpArgs false
/-- The numbers below n, in their order. -/
structure Idn (n : Nat) (d : List Int) : Prop where
  len : d.length = n
  at_ : ∀ i : Int, 0 ≤ i → i < n → gt d i = i
theorem mem_ix {l : List Int} {x : Int} (h : x ∈ l) : ∃ i : Int, 0 ≤ i ∧ i < l.length ∧ gt l i = x := by
  obtain ⟨i, hi, e⟩ := List.getElem_of_mem h
  have hb : inb (i : Int) l.length := ⟨by omega, by omega⟩
  exact ⟨i, by omega, by omega, by rw [gt_get hb]; simpa using e⟩
theorem Idn.mem {n : Nat} {d : List Int} (h : Idn n d) {c : Int} : c ∈ d ↔ 0 ≤ c ∧ c < n := by
  have hl := h.len
  constructor
  · intro hc
    obtain ⟨i, i0, i1, rfl⟩ := mem_ix hc
    rw [h.at_ i i0 (by omega)]; omega
  · rintro ⟨c0, c1⟩
    rw [← h.at_ c c0 c1]
    exact gt_mem ⟨c0, by omega⟩
theorem Idn.nodup {n : Nat} {d : List Int} (h : Idn n d) : d.Nodup := by
  have hl := h.len
  refine List.pairwise_iff_getElem.2 fun i j hi hj hij => ?_
  have e1 := gt_get (xs := d) (i := (i : Int)) ⟨by omega, by omega⟩
  have e2 := gt_get (xs := d) (i := (j : Int)) ⟨by omega, by omega⟩
  rw [h.at_ _ (by omega) (by omega)] at e1 e2
  simp only [Int.toNat_natCast] at e1 e2
  rw [← e1, ← e2]
  omega
theorem Idn.ord {n : Nat} {d r : List Int} (h : Idn n d) (k : Kept d r) : Ord n r := by
  have hl := h.len
  have rl := k.2
  have nd : r.Nodup := k.1.nodup_iff.2 h.nodup
  refine ⟨by omega, fun i i0 i1 => ?_, fun i j i0 i1 j0 j1 e => ?_, fun c c0 c1 => ?_⟩
  · exact h.mem.1 (k.1.mem_iff.1 (gt_mem ⟨i0, by omega⟩))
  · have key : ∀ i j : Int, 0 ≤ i → i < j → j < n → gt r i ≠ gt r j := fun i j i0 ij j1 => by
      rw [gt_get (i := i) ⟨i0, by omega⟩, gt_get (i := j) ⟨by omega, by omega⟩]
      exact List.pairwise_iff_getElem.1 nd _ _ _ _ (by omega)
    by_cases q : i < j
    · exact absurd e (key i j i0 q j1)
    · by_cases p : j < i
      · exact absurd e.symm (key j i j0 p i1)
      · omega
  · obtain ⟨i, i0, i1, e⟩ := mem_ix (k.1.mem_iff.2 (h.mem.2 ⟨c0, c1⟩))
    exact ⟨i, i0, by omega, e⟩
theorem nearId_ok {n : Nat} {z : List Int} (hz : z.length = n) (hn : n ≤ 1000000) : Ok (lp (P_legal_near_L4 z) fuel (z, 0)) (Idn n) := by
  refine ok_lp (fun s => 0 ≤ s.2 ∧ s.2 ≤ n ∧ s.1.length = n ∧ ∀ i : Int, 0 ≤ i → i < s.2 → gt s.1 i = i) (fun s => ((n : Int) - s.2).toNat) ⟨by simp, by simp only; omega, hz, fun i i0 i1 => by simp only at i1; omega⟩ (by simp only; omega) ?_
  rintro ⟨d, y⟩ ⟨y0, y1, l1, h1⟩
  simp only at y0 y1 l1 h1 ⊢
  unfold P_legal_near_L4
  dsimp only
  rw [hz]
  refine ok_ite (fun hlt => ?_) fun hge => ok_some ⟨l1, fun i i0 i1 => h1 i i0 (by omega)⟩
  refine ok_ck ⟨y0, by omega⟩ (ok_lv (ok_ar (by omega) (ok_some ⟨⟨by simp only; omega, by simp only; omega, by rw [stt_length]; exact l1, fun i i0 i1 => ?_⟩, by simp only; omega⟩)))
  simp only at i1 ⊢
  rw [gt_stt _ _ ⟨y0, by omega⟩ i0]
  split
  · omega
  · exact h1 i i0 (by omega)
theorem tightId_ok {n : Nat} {z : List Int} (hz : z.length = n) (hn : n ≤ 1000000) : Ok (lp (P_legal_tight_L4 z) fuel (z, 0)) (Idn n) := by
  refine ok_lp (fun s => 0 ≤ s.2 ∧ s.2 ≤ n ∧ s.1.length = n ∧ ∀ i : Int, 0 ≤ i → i < s.2 → gt s.1 i = i) (fun s => ((n : Int) - s.2).toNat) ⟨by simp, by simp only; omega, hz, fun i i0 i1 => by simp only at i1; omega⟩ (by simp only; omega) ?_
  rintro ⟨d, y⟩ ⟨y0, y1, l1, h1⟩
  simp only at y0 y1 l1 h1 ⊢
  unfold P_legal_tight_L4
  dsimp only
  rw [hz]
  refine ok_ite (fun hlt => ?_) fun hge => ok_some ⟨l1, fun i i0 i1 => h1 i i0 (by omega)⟩
  refine ok_ck ⟨y0, by omega⟩ (ok_lv (ok_ar (by omega) (ok_some ⟨⟨by simp only; omega, by simp only; omega, by rw [stt_length]; exact l1, fun i i0 i1 => ?_⟩, by simp only; omega⟩)))
  simp only at i1 ⊢
  rw [gt_stt _ _ ⟨y0, by omega⟩ i0]
  split
  · omega
  · exact h1 i i0 (by omega)
theorem tdiv4 {x : Int} (h0 : -1000 ≤ x) (h1 : x ≤ 1000) : -1000 ≤ Int.tdiv x 4 ∧ Int.tdiv x 4 ≤ 1000 := by
  by_cases h : 0 ≤ x
  · rw [Int.tdiv_eq_ediv_of_nonneg h]; omega
  · have e : Int.tdiv x 4 = -Int.tdiv (-x) 4 := by rw [Int.neg_tdiv]; omega
    rw [e, Int.tdiv_eq_ediv_of_nonneg (by omega)]; omega
theorem far_ok {x : Int} (h0 : -10000 ≤ x) (h1 : x ≤ 10000) : Ok (P_legal_far x) (fun r => 0 ≤ r ∧ r ≤ 10000) := by
  unfold P_legal_far
  first
    | exact ok_ar (by omega) (ok_lv (ok_some (by omega)))
    | exact ok_lv (ok_ar (by omega) (ok_lv (ok_some (by omega))))
    | exact ok_ar (by omega) (ok_some (by omega))
end Go.Proofs.YtfkncjfpgflafaaDoor.X
