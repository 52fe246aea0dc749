/- extract.strangers, beside, fill, whatever the orders are. Plain. -/
import Derived.Test.YtnnmbmgnpdcefaaUE
namespace Go.Proofs.Ytnnmbmgnpdcefaa.X
open Go Go.RowKit
set_option linter.unusedVariables false
set_option linter.unusedSimpArgs false
set_option linter.unusedSectionVars false
theorem tru_mput {κ : Type} [DecidableEq κ] {k k' : κ} {es : List (κ × Bool)} : mget k' (mput k true es) false = true ↔ k' = k ∨ mget k' es false = true := by
  rw [mget_mput]
  by_cases q : k' = k <;> simp [q]
theorem strangers_ok {l : T_rules_Layout} (hl : LayM l) (net : Int) : Ok (P_extract_strangers l net) (fun o => ∀ p, mget p o false = true ↔ ∃ w ∈ l.Wires, w.Net ≠ net ∧ Cov w p) := by
  obtain ⟨wl, wN⟩ := hl.wires
  unfold P_extract_strangers
  refine ok_bd (R := fun o => ∀ p, mget p o false = true ↔ ∃ w ∈ l.Wires, w.Net ≠ net ∧ Cov w p) ?_ fun o ho => ok_some ho
  refine ok_lp (fun s => ∃ m : Nat, s.2 = m ∧ m ≤ l.Wires.length ∧ ∀ p, mget p s.1 false = true ↔ ∃ w ∈ l.Wires.take m, w.Net ≠ net ∧ Cov w p) (fun s => ((l.Wires.length : Int) - s.2).toNat)
    ⟨0, rfl, Nat.zero_le _, fun p => by simp [mget_nil]⟩ (by simp only; omega) ?_
  rintro ⟨o, y⟩ ⟨m, rfl, hm, ho⟩
  simp only at ho ⊢
  unfold P_extract_strangers_L3
  dsimp only
  refine ok_ite (fun hlt => ?_) fun hge => ok_some ?_
  · have hmb : m < l.Wires.length := by omega
    have hg : gt l.Wires (m : Int) = l.Wires[m] := gt_nth hmb
    have hw := wN _ (List.getElem_mem hmb)
    have hx := hw.x
    have hy := hw.y
    refine ok_bd (R := fun r => ∀ p, mget p r false = true ↔ ∃ w ∈ l.Wires.take (m + 1), w.Net ≠ net ∧ Cov w p) (ok_ck ⟨by omega, hlt⟩ (ok_lv ?_)) fun r hr => ok_ar (by omega) (ok_some ⟨⟨m + 1, by simp, by omega, hr⟩, by simp only; omega⟩)
    rw [hg]
    generalize hwe : l.Wires[m] = w at hw hx hy
    refine ok_ite (fun hn => ok_some fun p => ?_) fun hn => ok_bd (R := fun r => ∀ p, mget p r false = true ↔ mget p o false = true ∨ Cov w p) ?_ fun r hr => ok_some fun p => ?_
    · rw [mem_snoc_ex hmb, ho, hwe]; exact ⟨.inl, fun h => h.elim id fun h => absurd hn h.1⟩
    · refine ok_lp (fun s => (w.Y0 ≤ s.2 ∧ s.2 ≤ w.Y1 + 1) ∧ ∀ p, mget p s.1 false = true ↔ mget p o false = true ∨ (Cov w p ∧ p.Y < s.2)) (fun s => (w.Y1 + 1 - s.2).toNat)
        ⟨by simp only; omega, fun p => ⟨.inl, fun h => h.elim id fun h => by unfold Cov at h; simp only at h; omega⟩⟩ (by simp only; omega) ?_
      rintro ⟨o1, y⟩ ⟨y1, h1⟩
      simp only at y1 h1 ⊢
      unfold P_extract_strangers_L7
      dsimp only
      refine ok_ite (fun hle => ok_bd (R := fun r => ∀ p, mget p r false = true ↔ mget p o1 false = true ∨ (p.Layer = w.Layer ∧ p.Y = y ∧ w.X0 ≤ p.X ∧ p.X ≤ w.X1)) ?_ fun r hr => ok_ar (by omega) (ok_some ⟨⟨by simp only; omega, fun p => ?_⟩, by simp only; omega⟩)) fun hgt => ok_some fun p => ?_
      · refine ok_lp (fun s => (w.X0 ≤ s.2 ∧ s.2 ≤ w.X1 + 1) ∧ ∀ p, mget p s.1 false = true ↔ mget p o1 false = true ∨ (p.Layer = w.Layer ∧ p.Y = y ∧ w.X0 ≤ p.X ∧ p.X < s.2)) (fun s => (w.X1 + 1 - s.2).toNat)
          ⟨by simp only; omega, fun p => ⟨.inl, fun h => h.elim id fun h => by simp only at h; omega⟩⟩ (by simp only; omega) ?_
        rintro ⟨o2, x⟩ ⟨x1, h2⟩
        simp only at x1 h2 ⊢
        unfold P_extract_strangers_L10
        dsimp only
        refine ok_ite (fun hle => ok_lv (ok_ar (by omega) (ok_some ⟨⟨by simp only; omega, fun p => ?_⟩, by simp only; omega⟩))) fun hgt => ok_some fun p => ?_
        · simp only
          rw [tru_mput, h2, spot_ext]
          by_cases hz : mget p o1 false = true
          · simp only [hz, true_or, or_true]
          · simp only [hz, Bool.false_eq_true, false_or]
            constructor <;> intro h <;> omega
        · rw [h2]
          by_cases hz : mget p o1 false = true
          · simp only [hz, true_or]
          · simp only [hz, Bool.false_eq_true, false_or]
            constructor <;> intro h <;> omega
      · simp only
        rw [hr, h1]
        by_cases hz : mget p o false = true
        · simp only [hz, true_or]
        · simp only [hz, Bool.false_eq_true, false_or]
          unfold Cov
          constructor <;> intro h <;> omega
      · rw [h1]
        by_cases hz : mget p o false = true
        · simp only [hz, true_or]
        · simp only [hz, Bool.false_eq_true, false_or]
          unfold Cov
          constructor <;> intro h <;> omega
    · rw [mem_snoc_ex hmb, hr, ho, hwe]
      simp only [ne_eq, hn, not_false_eq_true, true_and]
  · have e : m = l.Wires.length := by omega
    subst e
    rw [List.take_length] at ho
    exact ho
/-- The spots beside a spot, across its layer's direction. -/
def nbA (p : T_rules_Spot) : T_rules_Spot := if Int.tmod p.Layer 2 = 0 then ⟨p.Layer, p.X, p.Y - 1⟩ else ⟨p.Layer, p.X - 1, p.Y⟩
def nbB (p : T_rules_Spot) : T_rules_Spot := if Int.tmod p.Layer 2 = 0 then ⟨p.Layer, p.X, p.Y + 1⟩ else ⟨p.Layer, p.X + 1, p.Y⟩
def besF (o : List (T_rules_Spot × Bool)) (p : T_rules_Spot) : Int := (if mget (nbA p) o false = true then 1 else 0) + (if mget (nbB p) o false = true then 1 else 0)
theorem besF_bd (o : List (T_rules_Spot × Bool)) (p : T_rules_Spot) : 0 ≤ besF o p ∧ besF o p ≤ 2 := by unfold besF; split <;> split <;> omega
theorem beside_ok {o : List (T_rules_Spot × Bool)} {p : T_rules_Spot} (hx : 0 ≤ p.X ∧ p.X ≤ 1000) (hy : 0 ≤ p.Y ∧ p.Y ≤ 1000) : Ok (P_extract_beside o p) (fun r => r = besF o p) := by
  unfold P_extract_beside
  refine ok_ck (by decide) (ok_lv (ok_bd (R := fun t => T_rules_Spot.mk p.Layer t.1 t.2.1 = nbA p ∧ T_rules_Spot.mk p.Layer t.2.2.1 t.2.2.2 = nbB p) (ok_ite (fun h => ok_ar (by omega) (ok_ar (by omega) (ok_some ?_))) fun h => ok_ar (by omega) (ok_ar (by omega) (ok_some ?_))) ?_))
  · unfold nbA nbB; rw [if_pos h, if_pos h]; exact ⟨rfl, rfl⟩
  · unfold nbA nbB; rw [if_neg h, if_neg h]; exact ⟨rfl, rfl⟩
  rintro ⟨a, b, c, d⟩ ⟨h1, h2⟩
  simp only at h1 h2 ⊢
  rw [h1, h2]
  refine ok_lv (ok_bd (R := fun r => r = if mget (nbA p) o false = true then 1 else 0) (ok_ite (fun h => ok_ar (by omega) (ok_some (by rw [if_pos h]; rfl))) fun h => ok_some (by rw [if_neg h])) ?_)
  rintro _ rfl
  have hb : (0 : Int) ≤ (if mget (nbA p) o false = true then 1 else 0) ∧ (if mget (nbA p) o false = true then (1 : Int) else 0) ≤ 1 := by split <;> omega
  refine ok_lv (ok_bd (R := fun r => r = besF o p) (ok_ite (fun h => ok_ar (by omega) (ok_some ?_)) fun h => ok_some ?_) fun r hr => ok_some hr)
  · unfold besF; rw [if_pos h]
  · unfold besF; rw [if_neg h]; omega
def capF (p : T_rules_Spot) : Int := if p.Layer < 2 then 3 else 2
theorem capF_ok (p : T_rules_Spot) : Ok (P_extract_capacitance p.Layer) (fun r => r = capF p) := by
  unfold P_extract_capacitance capF
  exact ok_ite (fun h => ok_some (by rw [if_pos h])) fun h => ok_some (by rw [if_neg h])
theorem seen_perm {n : Nat} {seen : List Nat} (hn : seen.Nodup) (hb : ∀ i ∈ seen, i < n) (ha : ∀ i, i < n → i ∈ seen) : seen.Perm (List.range n) :=
  nodup_perm hn (fun i hi => List.mem_range.2 (hb i hi)) (nodup_le List.nodup_range fun i hi => ha i (List.mem_range.1 hi))
theorem seen_len {n : Nat} {seen : List Nat} (hn : seen.Nodup) (hb : ∀ i ∈ seen, i < n) : seen.length ≤ n := by
  have := nodup_le (m := List.range n) hn fun i hi => List.mem_range.2 (hb i hi)
  simpa using this
theorem seen_add {n : Nat} {seen : List Nat} {i : Nat} (hn : seen.Nodup) (hb : ∀ i ∈ seen, i < n) (hi : i < n) (hni : i ∉ seen) : (seen ++ [i]).Nodup ∧ ∀ j ∈ seen ++ [i], j < n := by
  refine ⟨List.nodup_append.2 ⟨hn, by simp, fun a ha b hb hab => ?_⟩, fun j hj => ?_⟩
  · rw [List.mem_singleton] at hb
    exact hni (by rw [← hb, ← hab]; exact ha)
  · rcases List.mem_append.1 hj with h | h
    · exact hb j h
    · rw [List.mem_singleton.1 h]; exact hi
theorem keys_range {κ α : Type} [Inhabited κ] [Inhabited α] (es : List (κ × α)) : (List.range es.length).map (fun i : Nat => (gt es (i : Int)).1) = es.map (·.1) := by
  apply List.ext_getElem
  · simp
  · intro i h1 h2
    simp only [List.length_map, List.length_range] at h1
    simp only [List.getElem_map, List.getElem_range]
    rw [gt_nth h1]
/-- What lies at a spot: what was there, its point, the vias over it. -/
def viaF (v : T_rules_Spot) (s : T_extract_step) : Int := if s.fa.Layer ≠ s.fb.Layer ∧ s.fa = v then 1 else 0
def loadF (l0 : T_rules_Spot → Int) (pts : List (T_rules_Spot × Bool)) (G : List T_extract_step) (o : List (T_rules_Spot × Bool)) (near : Int) (v : T_rules_Spot) : Int :=
  l0 v + (if mhas v pts = true then capF v + near * besF o v else 0) + lsum (viaF v) G
theorem lsum_key {v : T_rules_Spot} {c : Int} : ∀ {ks : List T_rules_Spot}, ks.Nodup → lsum (fun k => if k = v then c else 0) ks = if v ∈ ks then c else 0
  | [], _ => rfl
  | k :: ks, h => by
    obtain ⟨h1, h2⟩ := List.nodup_cons.1 h
    rw [lsum, lsum_key h2]
    by_cases q : k = v
    · subst q; rw [if_pos rfl, if_neg h1, if_pos (List.mem_cons_self)]; omega
    · rw [if_neg q]
      by_cases p : v ∈ ks
      · rw [if_pos p, if_pos (List.mem_cons_of_mem _ p)]; omega
      · rw [if_neg p, if_neg (fun h => by rcases List.mem_cons.1 h with h | h; exact q h.symm; exact p h)]; rfl
theorem fill_ok {x0 x1 x2 x3 : Int} {ws : List T_rules_Wire} {vs : List T_rules_Via} {ps : List T_rules_Pin} {wl : List T_floor_Wall} {load : List (T_rules_Spot × Int)} (hl : ∀ v, 0 ≤ mget v load 0 ∧ mget v load 0 ≤ 10000) {pts : List (T_rules_Spot × Bool)} {sts : List (T_extract_step × Bool)} {o : List (T_rules_Spot × Bool)} {near : Int} (hn : 0 ≤ near ∧ near ≤ 4)
    (hkp : Ks pts) (hks : Ks sts) (hpl : pts.length ≤ 3000) (hsl : sts.length ≤ 3000) (hpt : ∀ p, mhas p pts = true → (0 ≤ p.X ∧ p.X ≤ 1000) ∧ (0 ≤ p.Y ∧ p.Y ≤ 1000)) (hd : ∀ s ∈ sts.map (·.1), s.fa ≠ s.fb) :
    NOk (P_extract_tree_fill x0 x1 x2 x3 ws vs ps wl [] load [] pts sts o near) (fun r => Adj (sts.map (·.1)) r.1 ∧ (∀ v, mget v r.2 0 = loadF (fun v => mget v load 0) pts (sts.map (·.1)) o near v) ∧ ∀ v, 0 ≤ mget v r.2 0 ∧ mget v r.2 0 ≤ 100000) := by
  unfold P_extract_tree_fill
  refine nok_bd (S := fun l1 => (∀ v, mget v l1 0 = mget v load 0 + if mhas v pts = true then capF v + near * besF o v else 0) ∧ ∀ v, 0 ≤ mget v l1 0 ∧ mget v l1 0 ≤ 10100) ?_ ?_
  · refine nok_lp (fun s => s.1.Nodup ∧ (∀ i ∈ s.1, i < pts.length) ∧ ∀ v, mget v s.2 0 = mget v load 0 + lsum (fun i : Nat => if (gt pts (i : Int)).1 = v then capF v + near * besF o v else 0) s.1) (fun s => pts.length - s.1.length)
      ⟨List.nodup_nil, fun i hi => by simp at hi, fun v => by simp [lsum]⟩ (by simp; omega) ?_
    rintro ⟨seen, l1⟩ ⟨h1, h2, h3⟩
    simp only at h1 h2 h3 ⊢
    have hcv : ∀ v, 0 ≤ capF v + near * besF o v ∧ capF v + near * besF o v ≤ 11 := fun v => by
      have hb := besF_bd o v
      have h4 : 0 ≤ near * besF o v := Int.mul_nonneg hn.1 hb.1
      have h5 : near * besF o v ≤ 4 * 2 := Int.le_trans (Int.mul_le_mul_of_nonneg_right hn.2 hb.1) (Int.mul_le_mul_of_nonneg_left hb.2 (by omega))
      unfold capF; split <;> omega
    have hval : ∀ {sn : List Nat}, sn.Nodup → (∀ i ∈ sn, i < pts.length) → ∀ v, 0 ≤ lsum (fun i : Nat => if (gt pts (i : Int)).1 = v then capF v + near * besF o v else 0) sn ∧ lsum (fun i : Nat => if (gt pts (i : Int)).1 = v then capF v + near * besF o v else 0) sn ≤ 11 := fun {sn} n1 n2 v => by
      have e : lsum (fun i : Nat => if (gt pts (i : Int)).1 = v then capF v + near * besF o v else 0) sn = lsum (fun k => if k = v then capF v + near * besF o v else 0) (sn.map fun i : Nat => (gt pts (i : Int)).1) := (lsum_map (fun k => if k = v then capF v + near * besF o v else 0) (fun i : Nat => (gt pts (i : Int)).1) sn).symm
      rw [e, lsum_key]
      · have := hcv v; split <;> omega
      · refine List.pairwise_map.2 (List.Pairwise.imp_of_mem ?_ n1)
        intro a b ha hb hab e
        have ha' := n2 a ha
        have hb' := n2 b hb
        rw [gt_nth ha', gt_nth hb'] at e
        have := (List.pairwise_iff_getElem.1 hkp)
        by_cases q : a < b
        · exact this a b (by simpa using ha') (by simpa using hb') q (by simpa using e)
        · exact this b a (by simpa using hb') (by simpa using ha') (by omega) (by simpa using e.symm)
    unfold P_extract_tree_fill_L2
    dsimp only
    refine nok_nx (fun hall => nok_ret ?_) fun i hi hni => ?_
    · have hp := seen_perm h1 h2 hall
      refine ⟨fun v => ?_, fun v => ?_⟩
      · rw [h3, lsum_perm hp]
        have e : lsum (fun i : Nat => if (gt pts (i : Int)).1 = v then capF v + near * besF o v else 0) (List.range pts.length) = lsum (fun k => if k = v then capF v + near * besF o v else 0) ((List.range pts.length).map fun i : Nat => (gt pts (i : Int)).1) := (lsum_map (fun k => if k = v then capF v + near * besF o v else 0) (fun i : Nat => (gt pts (i : Int)).1) _).symm
        rw [e, keys_range, lsum_key hkp]
        by_cases q : mhas v pts = true
        · rw [if_pos q, if_pos (mhas_mem.1 q)]
        · rw [if_neg q, if_neg fun h => q (mhas_mem.2 h)]
      · have := hl v
        have := hval h1 h2 v
        have := h3 v
        omega
    · obtain ⟨a1, a2⟩ := seen_add h1 h2 hi hni
      have hmem : mhas (gt pts (i : Int)).1 pts = true := mhas_mem.2 (by rw [gt_nth hi]; exact List.mem_map.2 ⟨_, List.getElem_mem hi, rfl⟩)
      obtain ⟨px, py⟩ := hpt _ hmem
      have hc := hcv (gt pts (i : Int)).1
      have hb := besF_bd o (gt pts (i : Int)).1
      have h4 : 0 ≤ near * besF o (gt pts (i : Int)).1 := Int.mul_nonneg hn.1 hb.1
      have h5 : near * besF o (gt pts (i : Int)).1 ≤ 4 * 2 := Int.le_trans (Int.mul_le_mul_of_nonneg_right hn.2 hb.1) (Int.mul_le_mul_of_nonneg_left hb.2 (by omega))
      have hv := hval h1 h2 (gt pts (i : Int)).1
      have hl0 := hl (gt pts (i : Int)).1
      have h30 := h3 (gt pts (i : Int)).1
      refine nok_lv (nok_lv (nok_bo (capF_ok _) ?_))
      rintro _ rfl
      refine nok_bo (beside_ok px py) ?_
      rintro _ rfl
      have hcap : 0 ≤ capF (gt pts (i : Int)).1 ∧ capF (gt pts (i : Int)).1 ≤ 3 := by unfold capF; split <;> omega
      refine nok_ar (by omega) (nok_ar (by omega) (nok_ar (by omega) (nok_lv (nok_lv (nok_lv (nok_ret ⟨⟨a1, a2, fun v => ?_⟩, ?_⟩))))))
      · simp only [mget_mput, lsum_app, lsum]
        have hv3 := h3 v
        by_cases q : v = (gt pts (i : Int)).1
        · subst q
          simp only [if_true]
          omega
        · have q' : ¬ (gt pts (i : Int)).1 = v := fun e => q e.symm
          simp only [if_neg q, if_neg q']
          omega
      · have := seen_len a1 a2
        simp only [List.length_append, List.length_singleton] at this ⊢
        omega
  intro l1 hl1
  obtain ⟨hl1, hb1⟩ := hl1
  refine nok_bd (S := fun r => Adj (sts.map (·.1)) r.1 ∧ (∀ v, mget v r.2 0 = mget v l1 0 + lsum (viaF v) (sts.map (·.1))) ∧ ∀ v, 0 ≤ mget v r.2 0 ∧ mget v r.2 0 ≤ 100000) ?_ ?_
  · refine nok_lp (fun s => s.1.Nodup ∧ (∀ i ∈ s.1, i < sts.length) ∧ (∀ v, mget v s.2.1 [] = (s.1.map fun i : Nat => (gt sts (i : Int)).1).filter (inc v)) ∧ ∀ v, mget v s.2.2 0 = mget v l1 0 + lsum (viaF v) (s.1.map fun i : Nat => (gt sts (i : Int)).1)) (fun s => sts.length - s.1.length)
      ⟨List.nodup_nil, fun i hi => by simp at hi, fun v => by simp [mget_nil], fun v => by simp [lsum]⟩ (by simp; omega) ?_
    rintro ⟨seen, nx, l2⟩ ⟨h1, h2, h3, h4⟩
    simp only at h1 h2 h3 h4 ⊢
    have hvia : ∀ (v : T_rules_Spot) (m : List T_extract_step), 0 ≤ lsum (viaF v) m ∧ lsum (viaF v) m ≤ m.length := by
      intro v m
      induction m with
      | nil => simp [lsum]
      | cons a m ih =>
        rw [lsum, List.length_cons]
        have : 0 ≤ viaF v a ∧ viaF v a ≤ 1 := by unfold viaF; split <;> omega
        omega
    have hsl2 := seen_len h1 h2
    unfold P_extract_tree_fill_L6
    dsimp only
    refine nok_nx (fun hall => nok_ret ?_) fun i hi hni => ?_
    · have hp := (seen_perm h1 h2 hall).map (fun i : Nat => (gt sts (i : Int)).1)
      rw [keys_range] at hp
      refine ⟨fun v => by rw [h3]; exact hp.filter _, fun v => by rw [h4, lsum_perm hp], fun v => ?_⟩
      have := hvia v (seen.map fun i : Nat => (gt sts (i : Int)).1)
      have := hb1 v
      have := h4 v
      have hq := hvia v (seen.map fun i : Nat => (gt sts (i : Int)).1)
      rw [List.length_map] at hq
      simp only
      omega
    · obtain ⟨a1, a2⟩ := seen_add h1 h2 hi hni
      have hmem : (gt sts (i : Int)).1 ∈ sts.map (·.1) := by rw [gt_nth hi]; exact List.mem_map.2 ⟨_, List.getElem_mem hi, rfl⟩
      have hne := hd _ hmem
      have hlen : ∀ v, (mget v nx []).length ≤ 3000 := fun v => by
        rw [h3]
        have := List.length_filter_le (inc v) (seen.map fun i : Nat => (gt sts (i : Int)).1)
        rw [List.length_map] at this
        omega
      refine nok_lv ?_
      rw [spot_eta (gt sts (i : Int)).1.fa, spot_eta (gt sts (i : Int)).1.fb]
      have hl5 := hlen (gt sts (i : Int)).1.fa
      have hl6 := hlen (gt sts (i : Int)).1.fb
      refine nok_lv (nok_lv (nok_lv (nok_ck (by simp only [apOk, List.length_append, List.length_singleton]; omega) (nok_lv (nok_lv (nok_lv (nok_lv (nok_ck ?_ (nok_lv ?_)))))))))
      · simp only [mget_mput, if_neg (fun e => hne (Eq.symm e) : ¬ (gt sts (i : Int)).1.fb = (gt sts (i : Int)).1.fa), apOk, List.length_append, List.length_singleton]
        omega
      have hb4 := hb1 (gt sts (i : Int)).1.fa
      have hv4 := hvia (gt sts (i : Int)).1.fa (seen.map fun i : Nat => (gt sts (i : Int)).1)
      have h44 := h4 (gt sts (i : Int)).1.fa
      rw [List.length_map] at hv4
      refine nok_bd (S := fun l3 => ∀ v, mget v l3 0 = mget v l2 0 + viaF v (gt sts (i : Int)).1) (nok_ite (fun hq => nok_lv (nok_ar (by omega) (nok_lv (nok_lv (nok_lv (nok_ret fun v => ?_)))))) fun hq => nok_ret fun v => ?_) fun l3 hl3 => nok_ret ⟨⟨a1, a2, fun v => ?_, fun v => ?_⟩, ?_⟩
      · simp only [mget_mput]
        unfold viaF
        by_cases q : v = (gt sts (i : Int)).1.fa
        · subst q; simp only [if_true, ne_eq, hq, not_false_eq_true, true_and]
        · have q' : ¬ (gt sts (i : Int)).1.fa = v := fun e => q e.symm
          simp only [if_neg q, q', and_false, if_false]; omega
      · unfold viaF
        rw [if_neg (fun h => hq h.1)]; omega
      · simp only [mget_mput, List.map_append, List.map_cons, List.map_nil, List.filter_append, ← h3]
        have hne' : ¬ (gt sts (i : Int)).1.fb = (gt sts (i : Int)).1.fa := fun e => hne e.symm
        by_cases q1 : v = (gt sts (i : Int)).1.fb
        · subst q1
          simp only [if_true, if_neg hne', List.filter_cons, List.filter_nil, inc, decide_true, Bool.or_true]
        · by_cases q2 : v = (gt sts (i : Int)).1.fa
          · subst q2
            simp only [if_neg q1, if_true, List.filter_cons, List.filter_nil, inc, decide_true, Bool.true_or]
          · have e1 : ¬ (gt sts (i : Int)).1.fa = v := fun e => q2 e.symm
            have e2 : ¬ (gt sts (i : Int)).1.fb = v := fun e => q1 e.symm
            simp only [if_neg q1, if_neg q2, List.filter_cons, List.filter_nil, inc, e1, e2, decide_false, Bool.or_false, Bool.false_eq_true, if_false, List.append_nil]
      · simp only [List.map_append, List.map_cons, List.map_nil, lsum_app, lsum]
        rw [hl3, h4]; omega
      · have := seen_len a1 a2
        simp only [List.length_append, List.length_singleton] at this ⊢
        omega
  rintro ⟨nx, l2⟩ ⟨h1, h2, h3⟩
  refine nok_ret ⟨h1, fun v => ?_, h3⟩
  simp only at h2 ⊢
  rw [h2, hl1]
  rfl
end Go.Proofs.Ytnnmbmgnpdcefaa.X
