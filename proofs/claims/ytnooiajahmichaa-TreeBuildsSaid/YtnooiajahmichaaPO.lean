/- tree.Build, whole. Plain. -/
import Derived.Test.YtnooiajahmichaaPN
import Derived.Test.YtnooiajahmichaaPC
namespace Go.Proofs.Ytnooiajahmichaa.X
open Go Go.RowKit
set_option linter.unusedVariables false
theorem lp_step {σ β : Type} {body : σ → Option (σ ⊕ β)} {s : σ} {Q : β → Prop} {n : Nat} (h : Ok (body s) (fun o => match o with | .inl s' => Ok (lp body n s') Q | .inr b => Q b)) : Ok (lp body (n + 1) s) Q := by
  obtain ⟨o, ho, hq⟩ := h
  cases o with
  | inl s' => obtain ⟨r, hr, hQ⟩ := hq; exact ⟨r, by simp only [lp, ho]; exact hr, hQ⟩
  | inr b => exact ⟨b, by simp only [lp, ho], hq⟩
theorem fuel3 : fuel = 4611686018427387901 + 1 + 1 + 1 := by unfold fuel; rfl
theorem divlt {x : Int} {n m : Nat} (hx : 0 ≤ x ∧ x < n) (hm : 1 ≤ m) : 0 ≤ x * m / n ∧ x * m / n < m := by
  refine ⟨Int.ediv_nonneg (Int.mul_nonneg hx.1 (by omega)) (by omega), ?_⟩
  have h1 : x * (m : Int) < n * m := Int.mul_lt_mul_of_pos_right hx.2 (by omega)
  exact Int.ediv_lt_of_lt_mul (by omega) (by rw [Int.mul_comm (m : Int)]; exact h1)
/-- The upper level, under way. -/
structure Half (m m1 : Nat) (D : Int → Prop) (U : List Int) : Prop where
  l0 : m1 ≤ U.length
  l1 : U.length ≤ m1 + m
  top : ∀ j, 0 ≤ j → j < (m1 : Int) → gt U j = -1
  mid : ∀ x, 0 ≤ x ∧ x < (m : Int) → D x → m1 + x < U.length ∧ gt U (m1 + x) = x * m1 / m
theorem inner1_ok {m m1 : Nat} {o g : List Int} {cell i : Int} {lv : List (List (List Int))} {U leaf : List Int} (hm : m ≤ 100) (hm1 : m1 ≤ 100) (hg : g = chunk m m1 m i) (hi : 0 ≤ i ∧ i ≤ 1000)
    (hlv : lv.length = 2) (hl1 : (gt lv 1).length = m1) (h : Half m m1 (fun x => x * m1 / m < i) U) :
    Ok (lp (P_tree_Build_L35 cell o lv g i 0 1) fuel (0, U, leaf)) (fun r => r.2 = leaf ∧ Half m m1 (fun x => x * m1 / m < i + 1) r.1) := by
  have hgl : g.length ≤ m := hg ▸ chunk_length m m1 m i
  refine ok_lp (fun s => 0 ≤ s.1 ∧ s.1 ≤ g.length ∧ s.2.2 = leaf ∧ Half m m1 (Done m m1 g i s.1) s.2.1) (fun s => ((g.length : Int) - s.1).toNat)
    ⟨by simp, by simp, rfl, ⟨h.l0, h.l1, h.top, ?_⟩⟩ (by simp only; omega) ?_
  · rintro x hx (h1 | ⟨q, q0, q1, _⟩)
    · exact h.mid x hx h1
    · simp only at q1; omega
  rintro ⟨y, u, lf⟩ ⟨y0, y1, rfl, hh⟩
  simp only at y0 y1 hh
  have a0 := hh.l0
  have a1 := hh.l1
  unfold P_tree_Build_L35
  dsimp only
  refine ok_ite (fun hlt => ?_) fun hge => ok_some ⟨rfl, ⟨hh.l0, hh.l1, hh.top, fun x hx hd => hh.mid x hx ?_⟩⟩
  · have hgy : (0 ≤ gt g y ∧ gt g y < (m : Int)) ∧ gt g y * m1 / m = i := by
      have hmem := gt_mem (xs := g) ⟨y0, hlt⟩
      exact mem_chunk.1 (by rw [← hg]; exact hmem)
    refine ok_ck ⟨y0, hlt⟩ (ok_lv' fun x104 e104 => ?_)
    rw [← e104] at hgy
    refine ok_bd (R := fun r => r.2 = lf ∧ Half m m1 (Done m m1 g i (y + 1)) r.1) (ok_f (by omega) (ok_ck ⟨by omega, by omega⟩ (ok_lv' fun z ez => ?_))) ?_
    · have hzl : z.length = m1 := by rw [ez, hl1]
      refine ok_ar' (by omega) fun x123 e123 => ok_ar' (by omega) fun x126 e126 => ok_ar' (by omega) fun x129 e129 => ok_bd (grow_ok (by omega) (by omega) (by simp only; omega)) ?_
      intro r hr
      obtain ⟨r1, r2⟩ := hr
      simp only at r1 r2
      refine ok_some ⟨rfl, ⟨by simp only; omega, by simp only; omega, fun j j0 j1 => ?_, fun x hx hd => ?_⟩⟩
      · simp only
        rw [r2 j j0 (by omega), if_neg (by omega), if_pos (by omega)]
        exact hh.top j j0 j1
      · simp only
        by_cases e : x = x104
        · subst e
          refine ⟨by omega, ?_⟩
          rw [r2 _ (by omega) (by omega), if_pos (by omega)]; omega
        · have hd' : Done m m1 g i y x := by
            rcases hd with h1 | ⟨q, q0, q1, e1⟩
            · exact .inl h1
            · by_cases e2 : q = y
              · subst e2; exact absurd (e1.trans e104.symm) e
              · exact .inr ⟨q, q0, by omega, e1⟩
          obtain ⟨b1, b2⟩ := hh.mid x hx hd'
          refine ⟨by omega, ?_⟩
          rw [r2 _ (by omega) (by omega), if_neg (by omega), if_pos (by omega), b2]
    · rintro ⟨u2, _⟩ ⟨rfl, h2⟩
      exact ok_ar' (by omega) fun x ex => ok_some ⟨⟨by simp only; omega, by simp only; omega, rfl, by simp only; rw [ex]; exact h2⟩, by simp only; omega⟩
  · have := Done.from hd hx
    rw [← hg] at this
    rwa [show y = g.length by omega]
theorem outer1_ok {m m1 : Nat} {o : List Int} {cell : Int} {lv : List (List (List Int))} {U leaf : List Int} {c : List (List Int)} (hm : m ≤ 100) (hm1 : 1 ≤ m1 ∧ m1 ≤ 100)
    (hcl : c.length = m1) (hc : ∀ i, inb i c.length → gt c i = chunk m m1 m i) (hlv : lv.length = 2) (hl1 : (gt lv 1).length = m1) (hU : U.length = m1) (ht : ∀ j, 0 ≤ j → j < (m1 : Int) → gt U j = -1) :
    Ok (lp (P_tree_Build_L32 cell o lv c 0 1) fuel (0, U, leaf)) (fun r => r.2 = leaf ∧ Half m m1 (fun _ => True) r.1) := by
  refine ok_lp (fun s => 0 ≤ s.1 ∧ s.1 ≤ m1 ∧ s.2.2 = leaf ∧ Half m m1 (fun x => x * m1 / m < s.1) s.2.1) (fun s => ((m1 : Int) - s.1).toNat)
    ⟨by simp, by simp, rfl, ⟨by simp only; omega, by simp only; omega, ht, fun x hx h => ?_⟩⟩ (by simp only; omega) ?_
  · simp only at h
    have := (divlt hx hm1.1).1
    omega
  rintro ⟨i, u, lf⟩ ⟨i0, i1, rfl, hh⟩
  simp only at i0 i1 hh
  unfold P_tree_Build_L32
  dsimp only
  refine ok_ite (fun hlt => ?_) fun hge => ok_some ⟨rfl, ⟨hh.l0, hh.l1, hh.top, fun x hx _ => hh.mid x hx ?_⟩⟩
  · refine ok_ck ⟨i0, hlt⟩ (ok_lv' fun g eg => ok_bd (inner1_ok hm hm1.2 (eg.trans (hc i ⟨i0, hlt⟩)) ⟨i0, by omega⟩ hlv hl1 hh) ?_)
    rintro ⟨u2, _⟩ ⟨rfl, h2⟩
    simp only at h2
    exact ok_ar' (by omega) fun x ex => ok_some ⟨⟨by simp only; omega, by simp only; omega, rfl, by simp only; rw [ex]; exact h2⟩, by simp only; omega⟩
  · have := (divlt hx hm1.1).2
    omega
/-- What Build gives: m buffers at the lowest level (0: none), m1 above them. -/
structure Built (t : T_tree_Tree) (o : List Int) (n m1 m : Nat) : Prop where
  cell : t.Cell = 0
  ord : Ord o n
  upL : t.Up.length = m1 + m
  top : ∀ j, 0 ≤ j → j < (m1 : Int) → gt t.Up j = -1
  mid : ∀ x, 0 ≤ x ∧ x < (m : Int) → gt t.Up (m1 + x) = if m1 = 0 then -1 else x * m1 / m
  leafL : t.Leaf.length = n
  leaf : ∀ x, 0 ≤ x ∧ x < (n : Int) → gt t.Leaf (gt o x) = if m = 0 then -1 else m1 + x * m / n
  shape : (m = 0 ∧ m1 = 0 ∧ n ≤ 8) ∨ (8 < n ∧ n ≤ 64 ∧ m = (n + 7) / 8 ∧ m1 = 0) ∨ (64 < n ∧ n ≤ 288 ∧ m = (n + 7) / 8 ∧ m1 = (m + 7) / 8)
theorem levels_ok {n : Nat} (h0 : 8 < n) (h1 : n ≤ 288) : Ok (lp P_tree_Build_L22 fuel ([], (n : Int))) (fun lv =>
    (n ≤ 64 ∧ ∃ C, lv = [C] ∧ C.length = (n + 7) / 8 ∧ ∀ i, inb i C.length → gt C i = chunk n ((n + 7) / 8) n i) ∨
    (64 < n ∧ ∃ C D, lv = [C, D] ∧ (C.length = (n + 7) / 8 ∧ ∀ i, inb i C.length → gt C i = chunk n ((n + 7) / 8) n i) ∧ D.length = ((n + 7) / 8 + 7) / 8 ∧ ∀ i, inb i D.length → gt D i = chunk ((n + 7) / 8) (((n + 7) / 8 + 7) / 8) ((n + 7) / 8) i)) := by
  rw [fuel3]
  refine lp_step ?_
  unfold P_tree_Build_L22
  dsimp only
  refine ok_t (by omega) (ok_bd (chunks_ok (by omega) (by omega)) ?_)
  rintro C ⟨c1, c2⟩
  refine ok_lv (ok_ck (by simp) (ok_some ?_))
  simp only [List.nil_append]
  refine lp_step ?_
  refine ok_ite (fun hlt => ?_) fun hge => ok_some (.inl ⟨by omega, C, rfl, c1, c2⟩)
  rw [c1]
  refine ok_bd (chunks_ok (by omega) (by omega)) ?_
  rintro D ⟨d1, d2⟩
  refine ok_lv (ok_ck (by simp) (ok_some ?_))
  refine lp_step ?_
  exact ok_f (by omega) (ok_some (.inr ⟨by omega, C, D, rfl, ⟨c1, c2⟩, d1, d2⟩))
end Go.Proofs.Ytnooiajahmichaa.X
