/- tree.Build. Plain. -/
import Derived.Test.YtnooiajahmichaaPM
namespace Go.Proofs.Ytnooiajahmichaa.X
open Go Go.RowKit
set_option linter.unusedVariables false
theorem gt_app_rep {α : Type} [Inhabited α] {xs : List α} {k : Nat} {x : α} {i : Int} (h0 : (xs.length : Int) ≤ i) (h1 : i < xs.length + k) : gt (xs ++ List.replicate k x) i = x := by
  obtain ⟨y, rfl⟩ := Int.eq_ofNat_of_zero_le (by omega : 0 ≤ i)
  have h2 : y - xs.length < k := by omega
  simp only [gt, Int.toNat_natCast, List.getD_eq_getElem?_getD]
  rw [List.getElem?_append_right (by omega)]
  simp [h2]
theorem mem_gt {α : Type} [Inhabited α] {xs : List α} {x : α} (h : x ∈ xs) : ∃ q, inb q xs.length ∧ gt xs q = x := by
  obtain ⟨k, hk, rfl⟩ := List.mem_iff_getElem.1 h
  refine ⟨k, ⟨by omega, by omega⟩, ?_⟩
  rw [gt_get ⟨by omega, by omega⟩]; simp
theorem mem_upto {n : Nat} {x : Int} (h0 : 0 ≤ x) (h1 : x < n) : x ∈ upto n := by
  obtain ⟨y, rfl⟩ := Int.eq_ofNat_of_zero_le h0
  simp only [upto, List.mem_map, List.mem_range]
  exact ⟨y, by omega, rfl⟩
theorem mem_chunk {n m : Nat} {i x : Int} : x ∈ chunk n m n i ↔ (0 ≤ x ∧ x < n) ∧ x * m / n = i := by
  unfold chunk
  rw [List.mem_filter]
  simp only [decide_eq_true_eq]
  exact ⟨fun h => ⟨upto_mem h.1, h.2⟩, fun h => ⟨mem_upto h.1.1 h.1.2, h.2⟩⟩
theorem grow_ok {t : T_tree_Tree} {b up : Int} (h0 : 0 ≤ b) (h1 : b ≤ 1000) (hl : t.Up.length ≤ 1000) : Ok (P_tree_grow_2 t b up) (fun r => (r.length : Int) = max (t.Up.length : Int) (b + 1) ∧
    ∀ j, 0 ≤ j → j < (r.length : Int) → gt r j = if 0 ≤ up ∧ j = b then up else if j < (t.Up.length : Int) then gt t.Up j else -1) := by
  unfold P_tree_grow_2
  refine ok_bd (R := fun r => ∃ k : Nat, r = t.Up ++ List.replicate k (-1) ∧ (r.length : Int) = max (t.Up.length : Int) (b + 1)) ?_ ?_
  · refine ok_lp (fun s => ∃ k : Nat, s = t.Up ++ List.replicate k (-1) ∧ (s.length : Int) ≤ max (t.Up.length : Int) (b + 1)) (fun s => (b + 1 - s.length).toNat) ⟨0, by simp, by omega⟩ (by omega) ?_
    rintro _ ⟨k, rfl, hk⟩
    unfold P_tree_grow_2_L0
    simp only [List.length_append, List.length_replicate] at hk
    refine ok_ite (fun hlt => ok_lv (ok_ck ?_ (ok_some ⟨⟨k + 1, ?_, ?_⟩, ?_⟩))) fun hge => ok_some ⟨k, rfl, ?_⟩
    all_goals simp only [List.length_append, List.length_replicate, List.length_singleton] at *
    · omega
    · simp [List.replicate_succ', List.append_assoc]
    · omega
    · omega
    · omega
  rintro _ ⟨k, rfl, hk⟩
  have hlen : (t.Up ++ List.replicate k (-1)).length = t.Up.length + k := by simp
  have hold : ∀ j, 0 ≤ j → j < ((t.Up ++ List.replicate k (-1)).length : Int) → gt (t.Up ++ List.replicate k (-1)) j = if j < (t.Up.length : Int) then gt t.Up j else -1 := by
    intro j j0 j1
    split
    · exact gt_app_l (by omega)
    · exact gt_app_rep (by omega) (by omega)
  refine ok_bd (R := fun r => (r.length : Int) = max (t.Up.length : Int) (b + 1) ∧ ∀ j, 0 ≤ j → j < (r.length : Int) → gt r j = if 0 ≤ up ∧ j = b then up else if j < (t.Up.length : Int) then gt t.Up j else -1) ?_ fun r hr => ok_some hr
  refine ok_ite (fun hu => ok_ck ⟨h0, by omega⟩ (ok_lv (ok_some ⟨?_, fun j j0 j1 => ?_⟩))) fun hu => ok_some ⟨hk, fun j j0 j1 => ?_⟩
  · rw [stt_length]; exact hk
  · rw [stt_length] at j1
    rw [gt_stt _ _ ⟨h0, by omega⟩ j0, hold j j0 j1]
    by_cases e : j = b
    · rw [if_pos e, if_pos ⟨hu, e⟩]
    · rw [if_neg e, if_neg (c := 0 ≤ up ∧ j = b) (fun h => e h.2)]
  · rw [hold j j0 j1, if_neg (c := 0 ≤ up ∧ j = b) (fun h => hu h.1)]
/-- What is entered, of the numbers below n, before chunk i, and of chunk i before place y. -/
def Done (n m : Nat) (g : List Int) (i y x : Int) : Prop := x * m / n < i ∨ ∃ q, 0 ≤ q ∧ q < y ∧ x = gt g q
theorem Done.all {n m : Nat} {i x : Int} (h : Done n m (chunk n m n i) i ((chunk n m n i).length) x) (hx : 0 ≤ x ∧ x < n) : x * m / n < i + 1 := by
  rcases h with h | ⟨q, q0, q1, rfl⟩
  · omega
  · have := (mem_chunk.1 (gt_mem (xs := chunk n m n i) ⟨q0, q1⟩)).2; omega
theorem Done.from {n m : Nat} {i x : Int} (h : x * m / n < i + 1) (hx : 0 ≤ x ∧ x < n) : Done n m (chunk n m n i) i ((chunk n m n i).length) x := by
  by_cases h1 : x * m / n < i
  · exact .inl h1
  · obtain ⟨q, hq, e⟩ := mem_gt (mem_chunk.2 ⟨hx, (by omega : x * m / n = i)⟩)
    exact .inr ⟨q, hq.1, hq.2, e.symm⟩
/-- The lowest level: the flip-flops. -/
structure Ord (o : List Int) (n : Nat) : Prop where
  perm : o.Perm (upto n)
theorem Ord.len {o : List Int} {n : Nat} (h : Ord o n) : o.length = n := by rw [h.perm.length_eq, upto_length]
theorem Ord.rng {o : List Int} {n : Nat} (h : Ord o n) {x : Int} (hx : 0 ≤ x ∧ x < n) : inb (gt o x) n := by
  have := h.len
  exact upto_mem (h.perm.mem_iff.1 (gt_mem ⟨hx.1, by omega⟩))
theorem upto_nodup (n : Nat) : (upto n).Nodup := by
  unfold upto
  unfold List.Nodup
  rw [List.pairwise_map]
  exact List.Pairwise.imp (fun h e => h (Int.ofNat.inj e)) List.nodup_range
theorem Ord.inj {o : List Int} {n : Nat} (h : Ord o n) {x y : Int} (hx : 0 ≤ x ∧ x < n) (hy : 0 ≤ y ∧ y < n) (e : gt o x = gt o y) : x = y := by
  have hl := h.len
  have nd : o.Nodup := h.perm.nodup_iff.2 (upto_nodup n)
  rw [gt_get ⟨hx.1, by omega⟩, gt_get ⟨hy.1, by omega⟩] at e
  have := (List.getElem_inj nd).1 e
  omega
theorem inner0_ok {n m : Nat} {o g : List Int} {cell first i : Int} {lv : List (List (List Int))} {up leaf : List Int} (ho : Ord o n) (hn : n ≤ 288) (hg : g = chunk n m n i) (hf : 0 ≤ first ∧ first ≤ 1000) (hi : 0 ≤ i ∧ i ≤ 1000)
    (hl : leaf.length = n) (hd : ∀ x, 0 ≤ x ∧ x < (n : Int) → x * m / n < i → gt leaf (gt o x) = first + x * m / n) :
    Ok (lp (P_tree_Build_L35 cell o lv g i first 0) fuel (0, up, leaf)) (fun r => r.1 = up ∧ r.2.length = n ∧ ∀ x, 0 ≤ x ∧ x < (n : Int) → x * m / n < i + 1 → gt r.2 (gt o x) = first + x * m / n) := by
  have hol := ho.len
  have hgl : g.length ≤ n := hg ▸ chunk_length n m n i
  refine ok_lp (fun s => 0 ≤ s.1 ∧ s.1 ≤ g.length ∧ s.2.1 = up ∧ s.2.2.length = n ∧ ∀ x, 0 ≤ x ∧ x < (n : Int) → Done n m g i s.1 x → gt s.2.2 (gt o x) = first + x * m / n) (fun s => ((g.length : Int) - s.1).toNat)
    ⟨by simp, by simp, rfl, hl, ?_⟩ ?_ ?_
  · rintro x hx (h | ⟨q, q0, q1, _⟩)
    · exact hd x hx h
    · simp only at q1; omega
  · simp only; omega
  rintro ⟨y, u, lf⟩ ⟨y0, y1, rfl, l1, hd⟩
  simp only at y0 y1 l1 hd
  unfold P_tree_Build_L35
  dsimp only
  refine ok_ite (fun hlt => ?_) fun hge => ok_some ⟨rfl, l1, fun x hx h => hd x hx ?_⟩
  · have hgy : (0 ≤ gt g y ∧ gt g y < (n : Int)) ∧ gt g y * m / n = i := by
      have hmem := gt_mem (xs := g) ⟨y0, hlt⟩
      exact mem_chunk.1 (by rw [← hg]; exact hmem)
    refine ok_ck ⟨y0, hlt⟩ (ok_lv' fun x104 e104 => ok_bd (R := fun r => r.1 = u ∧ r.2 = stt lf (gt o x104) (first + i)) ?_ ?_)
    · rw [← e104] at hgy
      have hr := ho.rng hgy.1
      exact ok_t rfl (ok_ck ⟨hgy.1.1, by omega⟩ (ok_lv (ok_ar (by omega) (ok_ck ⟨hr.1, by omega⟩ (ok_lv (ok_some ⟨rfl, rfl⟩))))))
    · rintro ⟨_, _⟩ ⟨rfl, rfl⟩
      rw [← e104] at hgy
      have hr := ho.rng hgy.1
      refine ok_ar' (by omega) fun x ex => ok_some ⟨⟨by simp only; omega, by simp only; omega, rfl, by simp only; rw [stt_length, l1], fun z hz h => ?_⟩, by simp only; omega⟩
      simp only at h ⊢
      rw [gt_stt _ _ ⟨hr.1, by omega⟩ (ho.rng hz).1]
      by_cases e : gt o z = gt o x104
      · rw [if_pos e]
        have := ho.inj hz hgy.1 e
        rw [this, hgy.2]
      · rw [if_neg e]
        refine hd z hz ?_
        rcases h with h | ⟨q, q0, q1, rfl⟩
        · exact .inl h
        · by_cases e2 : q = y
          · subst e2; exact absurd (by rw [e104]) e
          · exact .inr ⟨q, q0, by omega, rfl⟩
  · have := Done.from h hx
    rw [← hg] at this
    rwa [show y = g.length by omega]
theorem outer0_ok {n m : Nat} {o : List Int} {cell first : Int} {lv : List (List (List Int))} {up leaf : List Int} {c : List (List Int)} (ho : Ord o n) (hn : n ≤ 288) (hf : 0 ≤ first ∧ first ≤ 1000) (hm : 1 ≤ m ∧ m ≤ 1000) (hn1 : 1 ≤ n)
    (hcl : c.length = m) (hc : ∀ i, inb i c.length → gt c i = chunk n m n i) (hl : leaf.length = n) :
    Ok (lp (P_tree_Build_L32 cell o lv c first 0) fuel (0, up, leaf)) (fun r => r.1 = up ∧ r.2.length = n ∧ ∀ x, 0 ≤ x ∧ x < (n : Int) → gt r.2 (gt o x) = first + x * m / n) := by
  refine ok_lp (fun s => 0 ≤ s.1 ∧ s.1 ≤ m ∧ s.2.1 = up ∧ s.2.2.length = n ∧ ∀ x, 0 ≤ x ∧ x < (n : Int) → x * m / n < s.1 → gt s.2.2 (gt o x) = first + x * m / n) (fun s => ((m : Int) - s.1).toNat)
    ⟨by simp, by simp, rfl, hl, fun x hx h => ?_⟩ (by simp only; omega) ?_
  · simp only at h
    have : 0 ≤ x * (m : Int) / n := Int.ediv_nonneg (Int.mul_nonneg hx.1 (by omega)) (by omega)
    omega
  rintro ⟨i, u, lf⟩ ⟨i0, i1, rfl, l1, hd⟩
  simp only at i0 i1 l1 hd
  unfold P_tree_Build_L32
  dsimp only
  refine ok_ite (fun hlt => ?_) fun hge => ok_some ⟨rfl, l1, fun x hx => hd x hx ?_⟩
  · refine ok_ck ⟨i0, hlt⟩ (ok_lv' fun g eg => ok_bd (inner0_ok (m := m) ho hn (eg.trans (hc i ⟨i0, hlt⟩)) hf ⟨i0, by omega⟩ l1 hd) ?_)
    rintro ⟨_, lf2⟩ ⟨rfl, l2, hd2⟩
    simp only at l2 hd2
    exact ok_ar' (by omega) fun x ex => ok_some ⟨⟨by simp only; omega, by simp only; omega, rfl, l2, fun z hz h => hd2 z hz (by simp only at h; omega)⟩, by simp only; omega⟩
  · have h1 : x * (m : Int) < n * m := Int.mul_lt_mul_of_pos_right hx.2 (by omega)
    have h2 : x * (m : Int) / n < m := Int.ediv_lt_of_lt_mul (by omega) (by rw [Int.mul_comm (m : Int)]; exact h1)
    omega
end Go.Proofs.Ytnooiajahmichaa.X
