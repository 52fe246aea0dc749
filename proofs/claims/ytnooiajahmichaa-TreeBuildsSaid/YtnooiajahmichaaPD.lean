/- The streams' trees of one level, and that tree.Check takes them. -/
import Derived.Test.YtnooiajahmichaaPC
namespace Go.Proofs.Ytnooiajahmichaa.X
open Go Go.RowKit
set_option linter.unusedVariables false
/-- The places below n at which b stands, in order. -/
def kids (xs : List Int) (b : Int) : Nat → List Int
  | 0 => []
  | n + 1 => if gt xs (n : Int) = b then kids xs b n ++ [(n : Int)] else kids xs b n
theorem kids_le (xs : List Int) (b : Int) : ∀ n, (kids xs b n).length ≤ n
  | 0 => Nat.le_refl _
  | n + 1 => by
    have := kids_le xs b n
    simp only [kids]
    split
    · rw [List.length_append, List.length_singleton]; omega
    · omega
theorem kids_mem {xs : List Int} {b x : Int} : ∀ {n : Nat}, x ∈ kids xs b n → 0 ≤ x ∧ x < n ∧ gt xs x = b
  | 0, h => by simp [kids] at h
  | n + 1, h => by
    simp only [kids] at h
    split at h
    · rcases List.mem_append.1 h with h | h
      · have := kids_mem h; omega
      · simp only [List.mem_singleton] at h; subst h; refine ⟨by omega, by omega, by assumption⟩
    · have := kids_mem h; omega
theorem Kids_ok (t : T_tree_Tree) (b : Int) (hu : t.Up.length ≤ 1000) (hl : t.Leaf.length ≤ 1000) : Ok (P_tree_Kids t b) (fun r => r.1 = kids t.Up b t.Up.length ∧ r.2 = kids t.Leaf b t.Leaf.length) := by
  unfold P_tree_Kids
  refine ok_bd (R := fun r => r = kids t.Up b t.Up.length) ?_ ?_
  · refine ok_lp (fun s => ∃ i : Nat, s.2 = i ∧ i ≤ t.Up.length ∧ s.1 = kids t.Up b i) (fun s => ((t.Up.length : Int) - s.2).toNat) ⟨0, rfl, by omega, rfl⟩ (by simp only; omega) ?_
    rintro ⟨_, _⟩ ⟨i, rfl, hi, rfl⟩
    unfold P_tree_Kids_L2
    simp only
    refine ok_ite (fun hlt => ?_) fun hge => ok_some (by rw [show i = t.Up.length by omega])
    have hkl := kids_le t.Up b i
    refine ok_ck ⟨by omega, hlt⟩ (ok_lv (ok_bd (R := fun r => r = kids t.Up b (i + 1)) ?_ ?_))
    · refine ok_ite (fun h => ok_lv (ok_ck (by simp only [List.length_append, List.length_singleton]; omega) (ok_some ?_))) fun h => ok_some ?_
      · simp only [kids]; rw [if_pos h]
      · simp only [kids]; rw [if_neg h]
    · rintro _ rfl
      exact ok_ar' (by omega) fun x ex => ok_some ⟨⟨i + 1, by simp only; omega, by omega, rfl⟩, by simp only; omega⟩
  rintro _ rfl
  refine ok_bd (R := fun r => r = kids t.Leaf b t.Leaf.length) ?_ ?_
  · refine ok_lp (fun s => ∃ i : Nat, s.2 = i ∧ i ≤ t.Leaf.length ∧ s.1 = kids t.Leaf b i) (fun s => ((t.Leaf.length : Int) - s.2).toNat) ⟨0, rfl, by omega, rfl⟩ (by simp only; omega) ?_
    rintro ⟨_, _⟩ ⟨i, rfl, hi, rfl⟩
    unfold P_tree_Kids_L8
    simp only
    refine ok_ite (fun hlt => ?_) fun hge => ok_some (by rw [show i = t.Leaf.length by omega])
    have hkl := kids_le t.Leaf b i
    refine ok_ck ⟨by omega, hlt⟩ (ok_lv (ok_bd (R := fun r => r = kids t.Leaf b (i + 1)) ?_ ?_))
    · refine ok_ite (fun h => ok_lv (ok_ck (by simp only [List.length_append, List.length_singleton]; omega) (ok_some ?_))) fun h => ok_some ?_
      · simp only [kids]; rw [if_pos h]
      · simp only [kids]; rw [if_neg h]
    · rintro _ rfl
      exact ok_ar' (by omega) fun x ex => ok_some ⟨⟨i + 1, by simp only; omega, by omega, rfl⟩, by simp only; omega⟩
  rintro _ rfl
  exact ok_some ⟨rfl, rfl⟩
/-- The leaves of a tree of one level. -/
def leafF (n b : Nat) : List Int := (List.range n).map fun i => if b = 0 then -1 else ((i % b : Nat) : Int)
theorem leafF_length (n b : Nat) : (leafF n b).length = n := by simp [leafF]
theorem gt_leafF (n b : Nat) {j : Int} (h0 : 0 ≤ j) (h1 : j < n) : gt (leafF n b) j = if b = 0 then -1 else Int.tmod j b := by
  obtain ⟨i, rfl⟩ := Int.eq_ofNat_of_zero_le h0
  have h : i < n := by omega
  simp only [gt, leafF, Int.toNat_natCast]
  simp [h]
  split
  · rfl
  · rw [Int.tmod_eq_emod_of_nonneg (by omega)]
def treeB (n b : Nat) : Bool :=
  Nat.ble b 8 && (List.range (b + 1)).all (fun c => Nat.ble ((kids (List.replicate b (-1)) ((c : Int) - 1) b).length + (kids (leafF n b) ((c : Int) - 1) n).length) 8) &&
  (List.range b).all (fun c => Nat.ble 1 ((kids (List.replicate b (-1)) (c : Int) b).length + (kids (leafF n b) (c : Int) n).length)) &&
  (List.range n).all (fun i => decide (-1 ≤ gt (leafF n b) (i : Int) ∧ gt (leafF n b) (i : Int) < b))
structure TreeShape (n b : Nat) : Prop where
  nR : 1 ≤ n ∧ n ≤ 40
  bR : b = 0 ∧ n ≤ 8 ∨ b = (n + 3) / 4 ∧ (n + 3) / 4 ≤ 8 ∨ b = (n + 7) / 8 ∧ 8 < (n + 3) / 4
theorem treeB_all : ((List.range 41).all fun n => Nat.beq n 0 || ((bif Nat.ble n 8 then treeB n 0 else true) && (bif Nat.ble ((n + 3) / 4) 8 then treeB n ((n + 3) / 4) else treeB n ((n + 7) / 8)))) = true := by decide +kernel
theorem TreeShape.ok {n b : Nat} (h : TreeShape n b) : treeB n b = true := by
  have h1 := List.all_eq_true.1 treeB_all n (List.mem_range.2 (by have := h.nR; omega))
  have h0 : Nat.beq n 0 = false := by
    cases hb : Nat.beq n 0 with
    | false => rfl
    | true => have := Nat.eq_of_beq_eq_true hb; have := h.nR; omega
  rw [h0, Bool.false_or, Bool.and_eq_true] at h1
  obtain ⟨h2, h3⟩ := h1
  rcases h.bR with ⟨rfl, h4⟩ | ⟨rfl, h4⟩ | ⟨rfl, h4⟩
  · rw [show Nat.ble n 8 = true from Nat.ble_eq_true_of_le h4] at h2; exact h2
  · rw [show Nat.ble ((n + 3) / 4) 8 = true from Nat.ble_eq_true_of_le h4] at h3; exact h3
  · have : Nat.ble ((n + 3) / 4) 8 = false := by
      cases hb : Nat.ble ((n + 3) / 4) 8 with
      | false => rfl
      | true => have := Nat.le_of_ble_eq_true hb; omega
    rw [this] at h3; exact h3
/-- A tree of one level. -/
structure Flat (t : T_tree_Tree) (n b : Nat) : Prop where
  shape : TreeShape n b
  cell : t.Cell = 0
  up : t.Up = List.replicate b (-1)
  leaf : t.Leaf = leafF n b
theorem Flat.upL {t : T_tree_Tree} {n b : Nat} (h : Flat t n b) : t.Up.length = b := by rw [h.up]; simp
theorem Flat.leafL {t : T_tree_Tree} {n b : Nat} (h : Flat t n b) : t.Leaf.length = n := by rw [h.leaf, leafF_length]
theorem Flat.le8 {t : T_tree_Tree} {n b : Nat} (h : Flat t n b) : b ≤ 8 := by
  have := h.shape.ok
  simp only [treeB, Bool.and_eq_true, Nat.ble_eq] at this
  exact this.1.1.1
theorem Flat.gtU {t : T_tree_Tree} {n b : Nat} (h : Flat t n b) {j : Int} (h0 : 0 ≤ j) (h1 : j < b) : gt t.Up j = -1 := by rw [h.up]; exact gt_rep ⟨h0, h1⟩
theorem Flat.gtL {t : T_tree_Tree} {n b : Nat} (h : Flat t n b) {j : Int} (h0 : 0 ≤ j) (h1 : j < n) : -1 ≤ gt t.Leaf j ∧ gt t.Leaf j < b ∧ (gt t.Leaf j < 0 → gt t.Leaf j = -1) := by
  have h2 := h.shape.ok
  simp only [treeB, Bool.and_eq_true, List.all_eq_true, List.mem_range, Nat.ble_eq, decide_eq_true_eq] at h2
  have := h2.2 j.toNat (by omega)
  rw [show ((j.toNat : Nat) : Int) = j by omega, ← h.leaf] at this
  omega
theorem Flat.fan {t : T_tree_Tree} {n b : Nat} (h : Flat t n b) {c : Int} (h0 : -1 ≤ c) (h1 : c < b) : (kids t.Up c t.Up.length).length + (kids t.Leaf c t.Leaf.length).length ≤ 8 ∧ (0 ≤ c → 1 ≤ (kids t.Up c t.Up.length).length + (kids t.Leaf c t.Leaf.length).length) := by
  have h2 := h.shape.ok
  simp only [treeB, Bool.and_eq_true, List.all_eq_true, List.mem_range, Nat.ble_eq, decide_eq_true_eq] at h2
  obtain ⟨⟨⟨_, h3⟩, h4⟩, _⟩ := h2
  rw [h.upL, h.leafL, h.up, h.leaf]
  constructor
  · have := h3 (c + 1).toNat (by omega)
    rwa [show (((c + 1).toNat : Nat) : Int) - 1 = c by omega] at this
  · intro hc
    have := h4 c.toNat (by omega)
    rwa [show ((c.toNat : Nat) : Int) = c by omega] at this
theorem Tree_ok {L : List Int} (hL : Strm L) {k n : Int} (hk : Few k) (hn : 1 ≤ n ∧ n ≤ 40) : Ok (P_maskmake_Stream_Tree (T_maskmake_Stream.mk L k) n) (fun r => (∃ b, Flat r.1 n.toNat b) ∧ k ≤ r.2 ∧ r.2 ≤ k + 1) := by
  unfold P_maskmake_Stream_Tree
  refine ok_ck ⟨by omega, by omega⟩ (ok_lv' fun z ez => ?_)
  have hzl : z.length = n.toNat := by rw [ez]; simp
  refine ok_bd (R := fun o => (o.1 = false → n ≤ 8) ∧ k ≤ o.2 ∧ o.2 ≤ k + 1) ?_ ?_
  · refine ok_ite (fun h => ok_some ⟨fun h9 => by simp at h9, by simp only; omega, by simp only; omega⟩) fun h => ?_
    simp only [decide_eq_true_eq] at h
    refine ok_bd (R := fun o => (o.1 = false → n ≤ 8) ∧ k ≤ o.2 ∧ o.2 ≤ k + 1) ?_ ?_
    · refine ok_ite (fun h2 => ?_) fun h2 => ?_
      · refine ok_bd (hL.flip hk (by omega)) fun r hr => ok_some ⟨fun _ => by omega, by simp only; omega, by simp only; omega⟩
      · exact ok_some ⟨fun _ => by omega, by simp only; omega, by simp only; omega⟩
    · rintro ⟨o1, o2⟩ h3; exact ok_some h3
  rintro ⟨q, k'⟩ ⟨hq, hk1, hk2⟩
  simp only at hq hk1 hk2
  have hd4 : Int.tdiv (n + 3) 4 = (n + 3) / 4 := Int.tdiv_eq_ediv_of_nonneg (by omega)
  have hd8 : Int.tdiv (n + 7) 8 = (n + 7) / 8 := Int.tdiv_eq_ediv_of_nonneg (by omega)
  refine ok_bd (R := fun b1 => b1 = 0 ∧ n ≤ 8 ∨ b1 = (n + 3) / 4) ?_ ?_
  · refine ok_ite (fun h => ok_ar' (by omega) fun x ex => ok_ck (by omega) (ok_ar' (by rw [ex, hd4]; omega) fun y ey => ok_some (.inr (by rw [ey, ex, hd4])))) fun h => ok_some (.inl ⟨rfl, hq (by simpa using h)⟩)
  intro b1 hb1
  refine ok_bd (R := fun b2 => ∃ b : Nat, b2 = b ∧ TreeShape n.toNat b) ?_ ?_
  · refine ok_ite (fun h => ok_ar' (by omega) fun x ex => ok_ck (by omega) (ok_ar' (by rw [ex, hd8]; omega) fun y ey => ok_some ⟨((n + 7) / 8).toNat, by rw [ey, ex, hd8]; omega, ⟨by omega, by omega⟩, by omega⟩)) fun h => ok_some ⟨b1.toNat, by omega, ⟨by omega, by omega⟩, by omega⟩
  rintro _ ⟨b, rfl, hsh⟩
  have hb8 : b ≤ 40 := by have := hsh.bR; have := hsh.nR; omega
  refine ok_bd (R := fun u => u = List.replicate b (-1)) ?_ ?_
  · refine ok_lp (fun s => ∃ i : Nat, s.1 = i ∧ i ≤ b ∧ s.2 = List.replicate i (-1)) (fun s => ((b : Int) - s.1).toNat) ⟨0, rfl, by omega, rfl⟩ (by simp only; omega) ?_
    rintro ⟨_, _⟩ ⟨i, rfl, hi, rfl⟩
    unfold P_maskmake_Stream_Tree_L8
    simp only
    refine ok_ite (fun hlt => ok_lv (ok_ck (by simp; omega) (ok_ar' (by omega) fun x ex => ok_some ⟨⟨i + 1, by simp only; omega, by omega, ?_⟩, by simp only; omega⟩))) fun hge => ok_some (by rw [show i = b by omega])
    simp only [List.replicate_succ']
  rintro _ rfl
  refine ok_bd (R := fun u => u = leafF n.toNat b) ?_ ?_
  · refine ok_lp (fun s => ∃ i : Nat, s.1 = i ∧ i ≤ n.toNat ∧ s.2.length = n.toNat ∧ ∀ j : Int, 0 ≤ j → j < i → gt s.2 j = gt (leafF n.toNat b) j) (fun s => (n - s.1).toNat) ⟨0, rfl, by omega, hzl, fun j j0 j1 => by omega⟩ (by simp only; omega) ?_
    rintro ⟨_, xs⟩ ⟨i, rfl, hi, hxl, hx⟩
    simp only at hxl hx
    unfold P_maskmake_Stream_Tree_L12
    simp only
    refine ok_ite (fun hlt => ?_) fun hge => ok_some (ext_gt (by rw [hxl, leafF_length]) fun j j0 j1 => hx j j0 (by omega))
    have hin : inb (i : Int) xs.length := ⟨by omega, by omega⟩
    refine ok_ck hin (ok_lv' fun z1 ez1 => ?_)
    have hz1 : z1.length = n.toNat := by rw [ez1, stt_length, hxl]
    refine ok_bd (R := fun z2 => z2.length = n.toNat ∧ ∀ j : Int, 0 ≤ j → j < (i + 1 : Nat) → gt z2 j = gt (leafF n.toNat b) j) ?_ ?_
    · refine ok_ite (fun hb => ?_) fun hb => ok_some ⟨hz1, fun j j0 j1 => ?_⟩
      · refine ok_ck (by omega) (ok_lv' fun m em => ok_ck ⟨by omega, by omega⟩ (ok_lv' fun z2 ez2 => ok_some ⟨by rw [ez2, stt_length, hz1], fun j j0 j1 => ?_⟩))
        rw [ez2, gt_stt _ _ ⟨by omega, by omega⟩ j0, gt_leafF _ _ j0 (by omega), if_neg (by omega : ¬ b = 0)]
        by_cases e : j = i
        · rw [if_pos e, em, e]
        · rw [if_neg e, ez1, gt_stt _ _ hin j0, if_neg e, hx j j0 (by omega), gt_leafF _ _ j0 (by omega), if_neg (by omega : ¬ b = 0)]
      · rw [ez1, gt_stt _ _ hin j0, gt_leafF _ _ j0 (by omega), if_pos (by omega : b = 0)]
        by_cases e : j = i
        · rw [if_pos e]
        · rw [if_neg e, hx j j0 (by omega), gt_leafF _ _ j0 (by omega), if_pos (by omega : b = 0)]
    · rintro z2 ⟨hz2, hz3⟩
      exact ok_ar' (by omega) fun x ex => ok_some ⟨⟨i + 1, by simp only; omega, by omega, hz2, hz3⟩, by simp only; omega⟩
  rintro _ rfl
  exact ok_some ⟨⟨b, hsh, rfl, rfl, rfl⟩, hk1, hk2⟩
end Go.Proofs.Ytnooiajahmichaa.X
