/- tree.Check takes what Build returns; the law TreeBuilds. Plain. -/
import Derived.Test.YtnooiajahmichaaPP
import Derived.Test.YtnooiajahmichaaPG
namespace Go.Proofs.Ytnooiajahmichaa.X
open Go Go.RowKit
set_option linter.unusedVariables false
theorem gt_app_r {α : Type} [Inhabited α] {xs ys : List α} {i : Int} (h : (xs.length : Int) ≤ i) : gt (xs ++ ys) i = gt ys (i - xs.length) := by
  simp only [gt, List.getD_eq_getElem?_getD]
  rw [List.getElem?_append_right (by omega), show i.toNat - xs.length = (i - xs.length).toNat by omega]
theorem gt_map_upto {k : Nat} {f : Int → Int} {x : Int} (h : inb x k) : gt ((upto k).map f) x = f x := by
  obtain ⟨y, rfl⟩ := Int.eq_ofNat_of_zero_le h.1
  have : y < k := by have := h.2; omega
  simp [gt, upto, this]
theorem Ord.onto {o : List Int} {n : Nat} (h : Ord o n) {z : Int} (hz : 0 ≤ z ∧ z < n) : ∃ x, (0 ≤ x ∧ x < (n : Int)) ∧ gt o x = z := by
  obtain ⟨q, hq, e⟩ := mem_gt (h.perm.mem_iff.2 (mem_upto hz.1 hz.2))
  have := h.len
  exact ⟨q, ⟨hq.1, by have := hq.2; omega⟩, e⟩
section
variable {t : T_tree_Tree} {o : List Int} {n m1 m : Nat}
theorem Built.m_le (h : Built t o n m1 m) : m ≤ 36 ∧ m1 ≤ 5 ∧ n ≤ 288 ∧ (m = 0 → m1 = 0) ∧ 2 * (m1 + m) ≤ n := by
  rcases h.shape with h | h | h <;> omega
theorem Built.up1 (h : Built t o n m1 m) (h1 : 0 < m1) : t.Up = List.replicate m1 (-1) ++ (upto m).map (fun x : Int => (0 : Int) + x * (m1 : Int) / (m : Int)) := by
  have hu := h.upL
  refine ext_gt (by simp [hu, upto_length]) fun j j0 j1 => ?_
  by_cases e : j < m1
  · rw [h.top j j0 e, gt_app_l (by rw [List.length_replicate]; omega), gt_rep ⟨j0, e⟩]
  · rw [gt_app_r (by rw [List.length_replicate]; omega), List.length_replicate, gt_map_upto ⟨by omega, by omega⟩]
    have := h.mid (j - m1) ⟨by omega, by omega⟩
    rw [if_neg (by omega), show (m1 : Int) + (j - m1) = j by omega] at this
    rw [this]; omega
theorem Built.up0 (h : Built t o n m1 m) (h1 : m1 = 0) : t.Up = List.replicate m (-1) := by
  have hu := h.upL
  refine ext_gt (by simp [hu, h1]) fun j j0 j1 => ?_
  have := h.mid j ⟨j0, by omega⟩
  rw [if_pos h1, show (m1 : Int) + j = j by omega] at this
  rw [this, gt_rep ⟨j0, by omega⟩]
theorem Built.lf (h : Built t o n m1 m) (hm : 0 < m) : t.Leaf.Perm ((upto n).map fun x => m1 + x * m / n) :=
  along h.ord.perm h.leafL fun x hx => by rw [h.leaf x ⟨hx.1, hx.2⟩, if_neg (by omega)]
theorem Built.gtL (h : Built t o n m1 m) {z : Int} (hz : 0 ≤ z ∧ z < n) : (m = 0 ∧ gt t.Leaf z = -1) ∨ (0 < m ∧ (m1 : Int) ≤ gt t.Leaf z ∧ gt t.Leaf z < m1 + m) := by
  obtain ⟨x, hx, rfl⟩ := h.ord.onto hz
  rw [h.leaf x hx]
  by_cases e : m = 0
  · exact .inl ⟨e, if_pos e⟩
  · have := divlt hx (by omega : 1 ≤ m)
    rw [if_neg e]; right; omega
theorem Built.gtU (h : Built t o n m1 m) {z : Int} (hz : 0 ≤ z ∧ z < m1 + m) : (gt t.Up z = -1 ∧ (z < m1 ∨ m1 = 0)) ∨ (0 < m1 ∧ (m1 : Int) ≤ z ∧ 0 ≤ gt t.Up z ∧ gt t.Up z < m1) := by
  by_cases e : z < m1
  · exact .inl ⟨h.top z hz.1 e, .inl e⟩
  · have := h.mid (z - m1) ⟨by omega, by omega⟩
    rw [show (m1 : Int) + (z - m1) = z by omega] at this
    rw [this]
    by_cases e1 : m1 = 0
    · exact .inl ⟨if_pos e1, .inr e1⟩
    · have := divlt (x := z - m1) (n := m) (m := m1) ⟨by omega, by omega⟩ (by omega)
      rw [if_neg e1]; right; omega
theorem Built.fan (h : Built t o n m1 m) {b : Int} (h0 : -1 ≤ b) (h1 : b < m1 + m) : many t.Up b + many t.Leaf b ≤ 8 ∧ (0 ≤ b → 1 ≤ many t.Up b + many t.Leaf b) := by
  by_cases e : m = 0
  · have hm1 := (h.m_le).2.2.2.1 e
    have hlf : t.Leaf = List.replicate n (-1) := ext_gt (by simp [h.leafL]) fun j j0 j1 => by
      have hj : j < (n : Int) := by have := h.leafL; omega
      rcases h.gtL ⟨j0, hj⟩ with ⟨_, e⟩ | ⟨_, _⟩
      · rw [e, gt_rep ⟨j0, hj⟩]
      · omega
    rw [h.up0 hm1, hlf, many_rep, many_rep, e]
    rcases h.shape with h | h | h
    · split <;> omega
    · omega
    · omega
  · have hle := h.m_le
    have hn : m ≤ n ∧ 1 ≤ n ∧ n ≤ 8 * m := by rcases h.shape with h | h | h <;> omega
    rw [many_perm (h.lf (by omega)), many_chunk]
    have hlow : (∃ b' : Nat, b - m1 = b' ∧ b' < m ∧ 1 ≤ (chunk n m n (b - m1)).length ∧ (chunk n m n (b - m1)).length ≤ 8) ∨ (b < m1 ∧ (chunk n m n (b - m1)).length = 0) := by
      by_cases e1 : b < m1
      · exact .inr ⟨e1, by rw [chunk_none (by omega) (by omega) (.inl (by omega))]; rfl⟩
      · obtain ⟨b', hb⟩ := Int.eq_ofNat_of_zero_le (by omega : 0 ≤ b - m1)
        have := chunk_size (n := n) (m := m) (b := b') (by omega) (by omega) (by omega) (by omega) (by omega)
        rw [hb]
        exact .inl ⟨b', rfl, by omega, this.1, this.2⟩
    by_cases e1 : m1 = 0
    · rw [h.up0 e1, many_rep]
      have hm8 : m ≤ 8 := by rcases h.shape with h | h | h <;> omega
      split
      · rcases hlow with ⟨b', hb, _⟩ | ⟨_, hc⟩ <;> omega
      · rcases hlow with ⟨b', hb, hb2, hb3, hb4⟩ | ⟨_, hc⟩ <;> omega
    · rw [h.up1 (by omega), many_app, many_rep, many_chunk]
      have hm : m1 ≤ m ∧ m ≤ 8 * m1 := by rcases h.shape with h | h | h <;> omega
      have hhigh : (0 ≤ b ∧ b < m1 ∧ 1 ≤ (chunk m m1 m (b - 0)).length ∧ (chunk m m1 m (b - 0)).length ≤ 8) ∨ ((b < 0 ∨ m1 ≤ b) ∧ (chunk m m1 m (b - 0)).length = 0) := by
        by_cases e2 : b < 0 ∨ (m1 : Int) ≤ b
        · exact .inr ⟨e2, by rw [chunk_none (by omega) (by omega) (by omega)]; rfl⟩
        · obtain ⟨b', hb⟩ := Int.eq_ofNat_of_zero_le (by omega : 0 ≤ b - 0)
          have := chunk_size (n := m) (m := m1) (b := b') (by omega) (by omega) (by omega) (by omega) (by omega)
          rw [hb]
          exact .inl ⟨by omega, by omega, this.1, this.2⟩
      split
      · rcases hlow with ⟨b', hb, hb2, hb3, hb4⟩ | ⟨_, hc⟩ <;> rcases hhigh with ⟨_, _, _, _⟩ | ⟨_, hd⟩ <;> omega
      · rcases hlow with ⟨b', hb, hb2, hb3, hb4⟩ | ⟨_, hc⟩ <;> rcases hhigh with ⟨_, _, _, _⟩ | ⟨_, hd⟩ <;> omega
theorem Built.check (h : Built t o n m1 m) {l : List T_api_Cell} (hl : Lib8 l) : Ok (P_tree_Check t (n : Int) l) (fun r => r = 0) := by
  unfold P_tree_Check
  have hb := h.m_le
  have hu := h.upL
  have hL := h.leafL
  have h8 := hl.len
  have hc := h.cell
  refine ok_bd (LibCheck_ok hl) ?_
  rintro _ rfl
  refine ok_f (by simp) (ok_lv (ok_f (by simp only [Bool.or_eq_true, decide_eq_true_eq]; omega) (ok_f (by omega) (ok_lv (ok_bd (R := fun r => r = false) ?_ ?_)))))
  · refine ok_f (by simp [hc]) (ok_bd (R := fun r => r = false) (ok_f (by omega) (ok_lv (ok_some (by simp; omega)))) ?_)
    rintro _ rfl; exact ok_some rfl
  rintro _ rfl
  refine ok_f (by simp) (ok_ck (fun hh => ⟨by omega, by omega⟩) (ok_lv (ok_bd (R := fun r => 0 < t.Up.length → r = true) ?_ ?_)))
  · refine ok_gd (fun _ => ?_) (fun hh hb => by simp only [decide_eq_false_iff_not] at hh; omega)
    unfold P_tree_IsBuffer
    rw [hc]
    exact ok_lv (ok_lv (ok_some fun _ => by rw [hl.c0.flop, hl.c0.ins, hl.c0.table]; rfl))
  intro ib hib
  refine ok_lv (ok_f ?_ ?_)
  · simp only [Bool.and_eq_true, decide_eq_true_eq, not_and]
    intro h1
    rw [hib (by omega)]; simp
  refine ok_bs1 (R := fun _ => True) ?_ fun _ _ => ok_bs1 (R := fun _ => True) ?_ fun _ _ => ok_bs1 (R := fun _ => True) ?_ fun _ _ => ok_some rfl
  · refine ok_lp (fun y => 0 ≤ y ∧ y ≤ t.Up.length) (fun y => ((t.Up.length : Int) - y).toNat) ⟨by omega, by omega⟩ (by omega) ?_
    rintro y ⟨h0, h1⟩
    unfold P_tree_Check_L15
    refine ok_ite (fun hlt => ?_) fun hge => ok_some ⟨(), rfl, trivial⟩
    refine ok_ck ⟨h0, hlt⟩ (ok_lv (ok_lv (ok_f ?_ (ok_ar' (by omega) fun x ex => ok_some ⟨⟨by omega, by omega⟩, by omega⟩))))
    simp only [Bool.or_eq_true, decide_eq_true_eq]
    rcases h.gtU (z := y) ⟨h0, by omega⟩ with ⟨e, _⟩ | ⟨_, _, _, _⟩ <;> omega
  · refine ok_lp (fun y => 0 ≤ y ∧ y ≤ n) (fun y => ((n : Int) - y).toNat) ⟨by omega, by omega⟩ (by omega) ?_
    rintro y ⟨h0, h1⟩
    unfold P_tree_Check_L21
    refine ok_ite (fun hlt => ?_) fun hge => ok_some ⟨(), rfl, trivial⟩
    refine ok_ck ⟨h0, hlt⟩ (ok_lv (ok_lv (ok_f ?_ (ok_ar' (by omega) fun x ex => ok_some ⟨⟨by omega, by omega⟩, by omega⟩))))
    simp only [Bool.or_eq_true, decide_eq_true_eq]
    rcases h.gtL (z := y) ⟨h0, by omega⟩ with ⟨_, e⟩ | ⟨_, _, _⟩ <;> omega
  · refine ok_lp (fun y => -1 ≤ y ∧ y ≤ t.Up.length) (fun y => ((t.Up.length : Int) - y).toNat) ⟨by omega, by omega⟩ (by omega) ?_
    rintro y ⟨h0, h1⟩
    unfold P_tree_Check_L27
    refine ok_ite (fun hlt => ?_) fun hge => ok_some ⟨(), rfl, trivial⟩
    refine ok_bd (Kids_ok t y (by omega) (by omega)) ?_
    rintro ⟨a, b⟩ ⟨e1, e2⟩
    simp only at e1 e2
    have hf := h.fan h0 (by omega)
    rw [← kids_many, ← kids_many, ← e1, ← e2] at hf
    refine ok_ar' (by simp only; omega) fun x ex => ?_
    simp only at ex
    refine ok_f (by omega) (ok_lv (ok_f ?_ (ok_ar' (by omega) fun x ex => ok_some ⟨⟨by omega, by omega⟩, by omega⟩)))
    simp only [Bool.and_eq_true, decide_eq_true_eq]; omega
theorem Built.depth (h : Built t o n m1 m) {y : Int} (h0 : 0 ≤ y) (h1 : y < n) : Ok (P_tree_Depth t y) (fun r => r = if m = 0 then 0 else if m1 = 0 then 1 else 2) := by
  have hb := h.m_le
  have hu := h.upL
  have hL := h.leafL
  have hl := h.gtL ⟨h0, h1⟩
  unfold P_tree_Depth
  refine ok_lv (ok_f (by simp only [Bool.or_eq_true, decide_eq_true_eq]; omega) (ok_ck ⟨by omega, by omega⟩ (ok_lv' fun x ex => ok_bs1 (R := fun r => r = (if m = 0 then 0 else if m1 = 0 then 1 else 2, -1)) ?_ ?_)))
  · rw [← ex] at hl
    rw [fuel3]
    rcases hl with ⟨e0, e⟩ | ⟨e0, e1, e2⟩
    · refine lp_step ?_
      unfold P_tree_Depth_L5
      dsimp only
      refine ok_f (by omega) (ok_some ⟨_, rfl, ?_⟩)
      rw [if_pos e0, e]
    · rw [if_neg (by omega)]
      have hU := h.gtU (z := x) ⟨by omega, by omega⟩
      refine lp_step ?_
      unfold P_tree_Depth_L5
      dsimp only
      refine ok_t (by omega) (ok_ck (fun _ => ⟨by omega, by omega⟩) (ok_lv (ok_lv (ok_f (by simp only [Bool.or_eq_true, decide_eq_true_eq]; omega) (ok_ar' (by omega) fun x38 e38 => ok_ck ⟨by omega, by omega⟩ (ok_lv' fun c ec => ok_some ?_))))))
      rw [← ec] at hU
      refine lp_step ?_
      dsimp only
      rcases hU with ⟨a, b⟩ | ⟨a, b, c1, d⟩
      · have e3 : m1 = 0 := by omega
        refine ok_f (by omega) (ok_some ⟨_, rfl, ?_⟩)
        rw [if_pos e3, e38, a]; rfl
      · have ht := h.top c c1 d
        refine ok_t (by omega) (ok_ck (fun _ => ⟨by omega, by omega⟩) (ok_lv (ok_lv (ok_f (by simp only [Bool.or_eq_true, decide_eq_true_eq]; omega) (ok_ar' (by omega) fun x39 e39 => ok_ck ⟨by omega, by omega⟩ (ok_lv' fun c' ec' => ok_some ?_))))))
        refine lp_step ?_
        dsimp only
        refine ok_f (by omega) (ok_some ⟨_, rfl, ?_⟩)
        rw [if_neg (by omega), ec', ht, e39, e38]; rfl
  · rintro _ rfl
    exact ok_f (by simp) (ok_some rfl)
end
theorem TreeBuilds_ok {L : List Int} (hL : Strm L) {flops : Int} (hf : I64 flops) : Ok (P_maskkeep4_TreeBuilds L flops) (fun r => r = true) := by
  unfold P_maskkeep4_TreeBuilds
  refine ok_bd (LayLib_ok hL (by omega) (by omega)) ?_
  rintro ⟨l, k1⟩ ⟨hl, hk0, hk1⟩
  simp only at hl hk0 hk1
  dsimp only
  refine ok_bd (Below_ok flops hf (by omega)) ?_
  rintro nn ⟨hn0, hn1, -⟩
  have hn1 := hn1 (by omega)
  obtain ⟨n, rfl⟩ := Int.eq_ofNat_of_zero_le hn0
  refine ok_bd (R := fun at_ => at_.length = n ∧ PtsOk at_) ?_ ?_
  · refine ok_lp (fun s => 0 ≤ s.2.1 ∧ s.2.1 ≤ n ∧ (s.1.length : Int) = s.2.1 ∧ s.2.2 = k1 + 2 * s.2.1 ∧ PtsOk s.1) (fun s => ((n : Int) - s.2.1).toNat) ⟨by simp, by simp, by simp, by simp, fun i hi => by simp at hi; omega⟩ (by simp only; omega) ?_
    rintro ⟨at_, y, k⟩ ⟨y0, y1, h1, h2, h3⟩
    simp only at y0 y1 h1 h2 h3
    unfold P_maskkeep4_TreeBuilds_L6
    dsimp only
    refine ok_ite (fun hlt => ?_) fun hge => ok_some ⟨by omega, h3⟩
    refine ok_bd (hL.next (by omega) (by omega)) ?_
    rintro ⟨a, k2⟩ ⟨a0, a1, -, a3⟩
    simp only at a0 a1 a3
    have a1 := a1 (by omega)
    refine ok_bd (hL.next (by simp only; omega) (by omega)) ?_
    rintro ⟨b, k3⟩ ⟨b0, b1, -, b3⟩
    simp only at b0 b1 b3
    have b1 := b1 (by omega)
    refine ok_lv (ok_ck (by unfold apOk; simp only [List.length_append, List.length_singleton]; omega) (ok_ar' (by omega) fun x ex => ok_some ⟨⟨by simp only; omega, by simp only; omega, by simp only [List.length_append, List.length_singleton]; omega, by simp only; omega, ?_⟩, by simp only; omega⟩))
    intro i hi
    simp only [List.length_append, List.length_singleton] at hi
    by_cases e : i = at_.length
    · simp only [gt_app_1 e]; omega
    · simp only; rw [gt_app_l (by have := hi.1; have := hi.2; omega)]
      exact h3 i ⟨hi.1, by have := hi.2; omega⟩
  rintro at_ ⟨hal, hap⟩
  refine ok_bd (Build_ok hap (by omega) hl) ?_
  rintro ⟨t, e⟩ ⟨he, o, m1, m, h⟩
  simp only at he h
  subst he
  dsimp only
  rw [hal] at h
  have hm := h.m_le
  have hu := h.upL
  have hup : n ≤ 8 → t.Up.length = 0 := by rcases h.shape with h | h | h <;> omega
  refine ok_bd (R := fun r => r = true) ⟨true, trees_ok, rfl⟩ ?_
  rintro _ rfl
  refine ok_lv (ok_bd (R := fun r => r = 0) (ok_gd (fun _ => h.check hl) (fun _ => rfl)) ?_)
  rintro _ rfl
  refine ok_lv (ok_lv' fun x58 e58 => ok_lv' fun x59 e59 => ok_ck (fun _ => by omega) (ok_lv' fun x64 e64 => ok_lv' fun x67 e67 => ok_f ?_ ?_))
  · rw [e67, e59, e58]
    simp only [Bool.not_true, Bool.false_or, Bool.or_eq_true, Bool.and_eq_true, decide_eq_true_eq, ne_eq, not_true_eq_false, decide_false]
    omega
  refine ok_bs1 (R := fun _ => True) ?_ fun _ _ => ok_bd (Build_nil hap (by omega)) fun r hr => ok_some ?_
  · refine ok_lp (fun y => 0 ≤ y ∧ y ≤ n) (fun y => ((n : Int) - y).toNat) ⟨by omega, by omega⟩ (by omega) ?_
    rintro y ⟨h0, h1⟩
    unfold P_maskkeep4_TreeBuilds_L13
    dsimp only
    refine ok_ite (fun hlt => ?_) fun hge => ok_some ⟨(), rfl, trivial⟩
    refine ok_bd (h.depth h0 hlt) fun d1 e1 => ok_bd (h.depth (by omega : (0 : Int) ≤ 0) (by omega)) fun d2 e2 => ok_f (by rw [e1, e2]; simp) (ok_ar' (by omega) fun x ex => ok_some ⟨⟨by omega, by omega⟩, by omega⟩)
  · rw [hr, hal]
    by_cases e : n ≤ 8
    · rw [if_pos e]
      have : ¬ (8 : Int) < n := by omega
      simp [this]
    · rw [if_neg e]
      have : (8 : Int) < n := by omega
      simp [this]
end Go.Proofs.Ytnooiajahmichaa.X
